/- The walk of walk: the parts of a formula, one by one. -/
import Derived.Test.YthbkdbnalkeieaaDoorRange
namespace Go.Proofs.YthbkdbnalkeieaaDoor
open Go.RowKit Go.Sort Go.Shelf

structure Part where
  op : Int
  la : Int
  p : Option Addr
  cap : Nat
  of : Fms
def Part.s (x : Part) : Value := .slice x.p x.of.len x.cap
def Part.v (x : Part) : Value := .agg #[.int .i64 x.op, .int .i64 x.la, .slice x.p x.of.len x.cap]

/-- A row of formulas with their slices. -/
inductive Anf where
  | nil
  | cons (op la : Int) (p : Option Addr) (cap : Nat) (of r : Anf)
namespace Anf
def er : Anf → Fms
  | nil => .nil
  | cons op la _ _ of r => .cons op la of.er r.er
def list : Anf → List Part
  | nil => []
  | cons op la p cap of r => ⟨op, la, p, cap, of.er⟩ :: (of.list ++ r.list)
def get : Anf → Nat → Option (Int × Int × Option Addr × Nat × Anf)
  | nil, _ => none
  | cons op la p cap of _, 0 => some (op, la, p, cap, of)
  | cons _ _ _ _ _ r, i + 1 => r.get i
def drop : Anf → Nat → Anf
  | F, 0 => F
  | nil, _ + 1 => nil
  | cons _ _ _ _ _ r, i + 1 => r.drop i
def All (Q : Int → Int → Option Addr → Nat → Anf → Prop) : Anf → Prop
  | nil => True
  | cons op la p cap of r => Q op la p cap of ∧ r.All Q
theorem All.at {Q : Int → Int → Option Addr → Nat → Anf → Prop} : ∀ {A : Anf}, A.All Q → ∀ {i : Nat} {op la : Int} {p : Option Addr} {cap : Nat} {of : Anf}, A.get i = some (op, la, p, cap, of) → Q op la p cap of
  | nil, _, _, _, _, _, _, _, h => by simp [get] at h
  | cons _ _ _ _ _ _, h, 0, _, _, _, _, _, e => by simp [get] at e; obtain ⟨rfl, rfl, rfl, rfl, rfl⟩ := e; exact h.1
  | cons _ _ _ _ _ r, h, i + 1, _, _, _, _, _, e => All.at (A := r) h.2 e
theorem all_of {Q : Int → Int → Option Addr → Nat → Anf → Prop} (h : ∀ op la p cap of, of.All Q → Q op la p cap of) : ∀ A : Anf, A.All Q
  | nil => trivial
  | cons op la p cap of r => ⟨h op la p cap of (all_of h of), all_of h r⟩
theorem drop_get : ∀ {A : Anf} {i : Nat}, i < A.er.len → ∃ op la p cap of, A.get i = some (op, la, p, cap, of) ∧ A.drop i = cons op la p cap of (A.drop (i + 1))
  | nil, _, h => by simp [er, Fms.len] at h
  | cons op la p cap of r, 0, _ => ⟨op, la, p, cap, of, rfl, by simp [drop]⟩
  | cons _ _ _ _ _ r, i + 1, h => by
    have := drop_get (A := r) (i := i) (by simp [er, Fms.len] at h; exact h)
    simpa [get, drop] using this
theorem er_get : ∀ {A : Anf} {i : Nat} {op la : Int} {p : Option Addr} {cap : Nat} {of : Anf}, A.get i = some (op, la, p, cap, of) → A.er.get i = some (op, la, of.er)
  | nil, _, _, _, _, _, _, h => by simp [get] at h
  | cons _ _ _ _ _ _, 0, _, _, _, _, _, e => by simp [get] at e; obtain ⟨rfl, rfl, rfl, rfl, rfl⟩ := e; rfl
  | cons _ _ _ _ _ r, i + 1, _, _, _, _, _, e => er_get (A := r) (i := i) e
theorem drop_len : ∀ (A : Anf), A.drop A.er.len = nil
  | nil => rfl
  | cons _ _ _ _ _ r => by simp [er, Fms.len, drop, drop_len r]
end Anf

def ARow (Z : Nat → Prop) (w : World) : Anf → Nat → Nat → Prop
  | .nil, _, _ => True
  | .cons op la p cap of r, b, off => Z b ∧ w.cell? ⟨b, off, none⟩ = some (In op) ∧ w.cell? ⟨b, off + 1, none⟩ = some (In la) ∧ w.cell? ⟨b, off + 2, none⟩ = some (.slice p of.er.len cap) ∧
      (of.er.len = 0 ∨ ∃ b' off', p = some ⟨b', off', none⟩ ∧ ARow Z w of b' off') ∧ ARow Z w r b (off + 3)
def ASl (Z : Nat → Prop) (w : World) (p : Option Addr) (A : Anf) : Prop := A.er.len = 0 ∨ ∃ b off, p = some ⟨b, off, none⟩ ∧ ARow Z w A b off

theorem er_nil {A : Anf} (h : A.er.len = 0) : A = .nil := by
  cases A with
  | nil => rfl
  | cons _ _ _ _ _ _ => simp [Anf.er, Fms.len] at h
theorem len_nil {F : Fms} (h : F.len = 0) : F = .nil := by
  cases F with
  | nil => rfl
  | cons _ _ _ _ => simp [Fms.len] at h

theorem RowZ.anf {Z : Nat → Prop} {w : World} : ∀ {F : Fms} {b off : Nat}, RowZ Z w F b off → ∃ A : Anf, A.er = F ∧ ARow Z w A b off
  | .nil, _, _, _ => ⟨.nil, rfl, trivial⟩
  | .cons op la of r, b, off, ⟨hb, ⟨s, h1, h2, h3, h4⟩, h5⟩ => by
    obtain ⟨A, rfl, hA⟩ := RowZ.anf h5
    rcases h4 with ⟨rfl, p, cap, rfl⟩ | ⟨b', off', cap, rfl, h4⟩
    · exact ⟨.cons op la p cap .nil A, rfl, hb, h1, h2, h3, .inl rfl, hA⟩
    · obtain ⟨A', rfl, hA'⟩ := RowZ.anf h4
      exact ⟨.cons op la _ cap A' A, rfl, hb, h1, h2, h3, .inr ⟨b', off', rfl, hA'⟩, hA⟩
theorem SlZ.anf {Z : Nat → Prop} {w : World} {s : Value} {F : Fms} (h : SlZ Z w s F) : ∃ (A : Anf) (p : Option Addr) (cap : Nat), A.er = F ∧ s = .slice p F.len cap ∧ ASl Z w p A := by
  rcases h with ⟨rfl, p, cap, rfl⟩ | ⟨b, off, cap, rfl, h⟩
  · exact ⟨.nil, p, cap, rfl, rfl, .inl rfl⟩
  · obtain ⟨A, rfl, hA⟩ := h.anf
    exact ⟨A, _, cap, rfl, rfl, .inr ⟨b, off, rfl, hA⟩⟩
theorem ARow.row {Z : Nat → Prop} {w : World} : ∀ {A : Anf} {b off : Nat}, ARow Z w A b off → RowZ Z w A.er b off
  | .nil, _, _, _ => trivial
  | .cons op la p cap of r, b, off, ⟨hb, h1, h2, h3, h4, h5⟩ => by
    refine ⟨hb, ⟨_, h1, h2, h3, ?_⟩, ARow.row h5⟩
    rcases h4 with h4 | ⟨b', off', rfl, h4⟩
    · rw [er_nil h4]; exact .inl ⟨rfl, p, cap, rfl⟩
    · exact .inr ⟨b', off', cap, rfl, ARow.row h4⟩
theorem ASl.sl {Z : Nat → Prop} {w : World} {p : Option Addr} {A : Anf} (h : ASl Z w p A) (cap : Nat) : SlZ Z w (.slice p A.er.len cap) A.er := by
  rcases h with h | ⟨b', off', rfl, h⟩
  · rw [er_nil h]; exact .inl ⟨rfl, p, cap, rfl⟩
  · exact .inr ⟨b', off', cap, rfl, h.row⟩
/-- Each part lies there. -/
theorem ARow.parts {Z : Nat → Prop} {w : World} : ∀ {A : Anf} {b off : Nat}, ARow Z w A b off → ∀ x ∈ A.list, SlZ Z w x.s x.of
  | .nil, _, _, _, x, hx => by simp [Anf.list] at hx
  | .cons op la p cap of r, b, off, ⟨hb, h1, h2, h3, h4, h5⟩, x, hx => by
    simp only [Anf.list, List.mem_cons, List.mem_append] at hx
    have h4' : ASl Z w p of := h4
    rcases hx with rfl | hx | hx
    · exact h4'.sl cap
    · rcases h4 with h4 | ⟨b', off', rfl, h4⟩
      · rw [er_nil h4] at hx; simp [Anf.list] at hx
      · exact ARow.parts h4 x hx
    · exact ARow.parts h5 x hx
theorem ASl.parts {Z : Nat → Prop} {w : World} {p : Option Addr} {A : Anf} (h : ASl Z w p A) : ∀ x ∈ A.list, SlZ Z w x.s x.of := by
  rcases h with h | ⟨b', off', rfl, h⟩
  · rw [er_nil h]; intro x hx; simp [Anf.list] at hx
  · exact h.parts
theorem ARow.at {Z : Nat → Prop} {w : World} : ∀ {A : Anf} {b off : Nat}, ARow Z w A b off → ∀ {i : Nat} {op la : Int} {p : Option Addr} {cap : Nat} {of : Anf}, A.get i = some (op, la, p, cap, of) →
    w.cell? ⟨b, off + i * 3, none⟩ = some (In op) ∧ w.cell? ⟨b, off + i * 3 + 1, none⟩ = some (In la) ∧ w.cell? ⟨b, off + i * 3 + 2, none⟩ = some (.slice p of.er.len cap) ∧ ASl Z w p of
  | .nil, _, _, _, _, _, _, _, _, _, e => by simp [Anf.get] at e
  | .cons op la p cap of r, b, off, h, 0, _, _, _, _, _, e => by
    simp [Anf.get] at e
    obtain ⟨rfl, rfl, rfl, rfl, rfl⟩ := e
    obtain ⟨_, h1, h2, h3, h4, _⟩ := h
    exact ⟨by simpa using h1, by simpa using h2, by simpa using h3, h4⟩
  | .cons op la p cap of r, b, off, h, i + 1, _, _, _, _, _, e => by
    have e1 : off + (i + 1) * 3 = off + 3 + i * 3 := by omega
    rw [e1]
    exact ARow.at h.2.2.2.2.2 (i := i) e

/-- What a round keeps: the blocks of Z; the variables that hold formulas. -/
def KpT (Z : Nat → Prop) (W W' : World) : Prop := ∀ k cs t fr, (Z k ∨ t = 26) → W.heap[k]? = some (.cells cs t fr) → W'.heap[k]? = some (.cells cs t fr)
theorem KpT.refl (Z : Nat → Prop) (W : World) : KpT Z W W := fun _ _ _ _ _ e => e
theorem KpT.t {Z : Nat → Prop} {A B C : World} (h : KpT Z A B) (k : KpT Z B C) : KpT Z A C := fun i cs t fr hi e => k i cs t fr hi (h i cs t fr hi e)
theorem KpT.put {Z : Nat → Prop} (W : World) (l : Nat) (o o' : Obj) (hl : W.heap[l]? = some o) (ho : o.isCells = false) : KpT Z W (W.putObj l o') := fun k cs t fr _ e => by
  have hne : k ≠ l := by rintro rfl; rw [e] at hl; cases hl; simp [Obj.isCells] at ho
  show (W.heap.setIfInBounds l o')[k]? = _
  rw [Array.getElem?_setIfInBounds_ne (Ne.symm hne)]
  exact e
theorem KpT.below {Z : Nat → Prop} {W W' : World} (h : Below W.heap.size W W') : KpT Z W W' := fun _ _ _ _ _ e => (h.block _ (lt_of_block e)).trans e
theorem KpT.chg {Z S : Nat → Prop} {W W' : World} (h : Chg S W W') (hS : ∀ k, S k → ¬ Z k) (ht : ∀ k cs fr, S k → W.heap[k]? ≠ some (.cells cs 26 fr)) : KpT Z W W' := fun k cs t fr hz e => by
  refine (h.block k (lt_of_block e) (fun hs => ?_)).trans e
  rcases hz with hz | rfl
  · exact hS k hs hz
  · exact ht k cs fr hs e
theorem KpT.cell {Z : Nat → Prop} {A B : World} (h : KpT Z A B) {p : Addr} {v : Value} (hp : Z p.block) (e : A.cell? p = some v) : B.cell? p = some v := by
  have hk : ∃ cs t fr, A.heap[p.block]? = some (.cells cs t fr) := by
    unfold World.cell? at e
    split at e
    · exact ⟨_, _, _, by assumption⟩
    · cases e
  obtain ⟨cs, t, fr, hk⟩ := hk
  exact (World.cell?_of_block ((h _ _ _ _ (.inl hp) hk).trans hk.symm)).trans e
theorem RowZ.kp {Z : Nat → Prop} {W W' : World} (h : KpT Z W W') : ∀ {F : Fms} {b off : Nat}, RowZ Z W F b off → RowZ Z W' F b off
  | .nil, _, _, _ => trivial
  | .cons _ _ _ _, _, _, ⟨hb, ⟨s, h1, h2, h3, h4⟩, h5⟩ => ⟨hb, ⟨s, h.cell hb h1, h.cell hb h2, h.cell hb h3, h4.imp id (fun ⟨b', off', cap, e, k⟩ => ⟨b', off', cap, e, RowZ.kp h k⟩)⟩, RowZ.kp h h5⟩
theorem SlZ.kp {Z : Nat → Prop} {W W' : World} (h : KpT Z W W') {s : Value} {F : Fms} (k : SlZ Z W s F) : SlZ Z W' s F := k.imp id (fun ⟨b', off', cap, e, k⟩ => ⟨b', off', cap, e, k.kp h⟩)
theorem ARow.kp {Z : Nat → Prop} {W W' : World} (h : KpT Z W W') : ∀ {A : Anf} {b off : Nat}, ARow Z W A b off → ARow Z W' A b off
  | .nil, _, _, _ => trivial
  | .cons _ _ _ _ _ _, _, _, ⟨hb, h1, h2, h3, h4, h5⟩ => ⟨hb, h.cell hb h1, h.cell hb h2, h.cell hb h3, h4.imp id (fun ⟨b', off', e, k⟩ => ⟨b', off', e, ARow.kp h k⟩), ARow.kp h h5⟩
theorem ASl.kp {Z : Nat → Prop} {W W' : World} (h : KpT Z W W') {p : Option Addr} {A : Anf} (k : ASl Z W p A) : ASl Z W' p A := k.imp id (fun ⟨b', off', e, k⟩ => ⟨b', off', e, k.kp h⟩)

theorem wpIn_scope_wide {n : Nat} {c : Code} {P : Program} {Q : Exit → Act → World → Prop} {a : Act} {w : World} (h : c.wpIn Fence.wide n P (Exit.noGoto Q) a w) : (Code.scope c).wpIn Fence.wide n P Q a w :=
  wpIn_wide.2 (wp_scope_straight (wpIn_wide.1 h))
@[go_sem] theorem noGoto_normal {Q : Exit → Act → World → Prop} {a : Act} {w : World} : Exit.noGoto Q .normal a w = Q .normal a w := rfl
@[go_sem] theorem noGoto_ret {Q : Exit → Act → World → Prop} {a : Act} {w : World} : Exit.noGoto Q .ret a w = Q .ret a w := rfl
attribute [local go_sem] Oper.semAt_some

theorem YieldAt.wideDepth {m : Nat} (m' : Nat) {P : Program} {l : Nat} {args : Array Value} {W : World} {R : Ending → World → Prop} (h : YieldAt Fence.wide m P l args W R) : YieldAt Fence.wide m' P l args W R := by
  obtain ⟨fn, tmps, assign, body, hy, hR⟩ := h
  exact ⟨fn, tmps, assign, body, hy, hR.1, fun c cs _ => hR.2 c cs (fun d h => by cases h)⟩

section
variable (Pp : Part → Prop) (Z : Nat → Prop) (l B N : Nat) (J Jx : List { x // Pp x } → World → Prop)

def WalkEnd (pre xs : List { x // Pp x }) (W : World) (e : Ending) (W' : World) : Prop :=
  (e = .returned (.bool true) ∧ J (pre ++ xs) W' ∧ KpT Z W W') ∨ (e = .returned (.bool false) ∧ (∃ q, q <+: xs ∧ Jx (pre ++ q) W') ∧ KpT Z W W')

def WalkSays (op la : Int) (p : Option Addr) (cap : Nat) (A : Anf) : Prop :=
  ∀ (n : Nat) (pre xs : List { x // Pp x }) (W : World), xs.map Subtype.val = ⟨op, la, p, cap, A.er⟩ :: A.list → ASl Z W p A → J pre W → A.er.size ≤ 1000000 → pre.length + xs.length ≤ N →
    CallsIn Fence.wide n Tryd.prog 46 #[.agg #[.int .i64 op, .int .i64 la, .slice p A.er.len cap], .func (.yield l) #[] #[]] W fun e W' => WalkEnd Pp Z J Jx pre xs W e W'

set_option maxHeartbeats 4000000 in
set_option maxRecDepth 100000 in
theorem walk_step (hJ : AbidesFrom B J) (hJx : AbidesFrom B Jx)
    (hY : ∀ m pre x W, J pre W → pre.length < N → YieldAt Fence.wide m Tryd.prog l #[x.val.v] W fun e W' => (e = .returned (.bool true) ∧ J (pre ++ [x]) W' ∧ KpT Z W W') ∨ (e = .returned (.bool false) ∧ Jx (pre ++ [x]) W' ∧ KpT Z W W'))
    (op la : Int) (p : Option Addr) (cap : Nat) (A : Anf) (IH : A.All (WalkSays Pp Z l N J Jx)) : WalkSays Pp Z l N J Jx op la p cap A := by
  intro n pre xs W hxs hA hj hlen0 hN
  have hlen : A.er.len ≤ 1000000 := Nat.le_trans (Fms.len_le_size _) hlen0
  obtain ⟨x0, ys, rfl, hx0, hys⟩ := List.map_eq_cons_iff.1 hxs
  obtain ⟨V, hV⟩ : ∃ V, V = W.alloc (.cells #[.int .i64 op, .int .i64 la, .slice p A.er.len cap] 26) := ⟨_, rfl⟩
  have hbV : Below W.heap.size W V := by rw [hV]; exact (Below.refl _ W).alloc (Nat.le_refl _) _
  have hkV : V.heap[W.heap.size]? = some (.cells #[In op, In la, .slice p A.er.len cap] 26 (0, 0)) := by rw [hV]; exact block_alloc_new W _
  have hjV : J pre V := by rw [hV]; exact hJ _ _ _ none hj (World.grownBy_alloc W _ none) (fun r e => by cases e)
  obtain ⟨bx, hbx⟩ : ∃ bx, bx = W.heap.size := ⟨_, rfl⟩
  rw [← hbx] at hkV
  obtain ⟨fn, tmps, assign, body, hy, hR⟩ := hY (n - 1) pre x0 V hjV (by simp at hN; omega)
  have hv0 : x0.val.v = .agg #[.int .i64 op, .int .i64 la, .slice p A.er.len cap] := by rw [hx0]; rfl
  rw [hv0] at hy
  have HR := Lib.hid hR
  have HA := Lib.hid (hA.kp (KpT.below hbV))
  have HIH := Lib.hid IH
  have HK := Lib.hid hkV
  have HYS := Lib.hid hys
  have HBV := Lib.hid hbV
  clear hR hA IH hkV hys hxs hx0 hv0 hj hjV hbV hY
  refine callsIn_of_wp Tryd.func46 rfl trivial ?_ rfl
  simp only [Tryd.ntmps46, List.size_toArray, List.length_cons, List.length_nil, Nat.reduceAdd, Nat.reduceSub, Array.replicate_succ, Array.replicate_zero, List.push_toArray, List.append_toArray, List.nil_append, List.cons_append]
  have hend : ∀ (e : Ending) (W' : World), ((e = .returned (.bool true) ∧ J (pre ++ [x0]) W' ∧ KpT Z V W') ∨ (e = .returned (.bool false) ∧ Jx (pre ++ [x0]) W' ∧ KpT Z V W')) →
      ∃ left : Bool, e = .returned (.bool (!left)) ∧ KpT Z W W' ∧ W'.heap[bx]? = some (.cells #[In op, In la, .slice p A.er.len cap] 26 (0, 0)) ∧ ASl Z W' p A ∧
        ((left = false ∧ J (pre ++ [x0]) W') ∨ (left = true ∧ ∃ q, q <+: x0 :: ys ∧ Jx (pre ++ q) W')) := by
    rintro e W' (⟨rfl, h1, h2⟩ | ⟨rfl, h1, h2⟩)
    · exact ⟨false, rfl, (KpT.below HBV.out).t h2, h2 _ _ _ _ (.inr rfl) HK.out, HA.out.kp h2, .inl ⟨rfl, h1⟩⟩
    · exact ⟨true, rfl, (KpT.below HBV.out).t h2, h2 _ _ _ _ (.inr rfl) HK.out, HA.out.kp h2, .inr ⟨rfl, [x0], ⟨ys, rfl⟩, h1⟩⟩
  have HE := Lib.hid hend
  clear hend
  gi_wp2
  rw [← hV, ← hbx]
  clear hV hbx
  have c0 := cell_of (o := 0) (v := In op) HK.out rfl
  have c1 := cell_of (o := 1) (v := In la) HK.out rfl
  have c2 := cell_of (o := 2) (v := .slice p A.er.len cap) HK.out rfl
  refine wpIn_scope_wide ?_
  gi_wp2
  refine ⟨fun h => (by cases h), HR.out.mono ?_⟩
  intro e W1 h
  obtain ⟨left, rfl, hk1, hbx, hA1, hst⟩ := HE.out e W1 h
  have HK1 := Lib.hid hk1
  have HBX := Lib.hid hbx
  have HA1 := Lib.hid hA1
  have HST := Lib.hid hst
  clear h hk1 hbx hA1 hst HE HA HK HBV c0 c1 c2
  have c2 := cell_of (o := 2) (v := .slice p A.er.len cap) HBX.out rfl
  gi_wp2
  refine wpIn_label ?_
  simp only [Exit.then]
  gi_wp2
  clear c2
  gi_loopw [5, 15] (fun s5 s15 wr => ∃ (i : Nat) (left : Bool), s5 = .bool left ∧ s15 = .int .i64 i ∧ i ≤ A.er.len ∧ Hid (KpT Z W wr) ∧ Hid (ASl Z wr p A) ∧
      Hid ((left = false ∧ ∃ zs rs, ys = zs ++ rs ∧ rs.map Subtype.val = (A.drop i).list ∧ J (pre ++ x0 :: zs) wr) ∨ (left = true ∧ ∃ q, q <+: x0 :: ys ∧ Jx (pre ++ q) wr)))
    (fun _ i _ => A.er.len - (intOf i).toNat)
  case atStart =>
    refine ⟨0, left, by simp, rfl, Nat.zero_le _, HK1, HA1, Lib.hid ?_⟩
    rcases HST.out with ⟨rfl, h⟩ | ⟨rfl, h⟩
    · exact .inl ⟨rfl, [], ys, rfl, by rw [HYS.out]; cases A <;> rfl, h⟩
    · exact .inr ⟨rfl, h⟩
  case round =>
    obtain ⟨i, lf, rfl, rfl, hi, HKr, HAr, HSr⟩ := hrel
    clear HST HA1 HK1 HBX
    by_cases hlt : i < A.er.len
    · obtain ⟨op', la', p', cap', of', hget, hdrop⟩ := Anf.drop_get hlt
      have hlt' : (i : Int) < (A.er.len : Int) := by omega
      have hrow : ∃ b off, p = some ⟨b, off, none⟩ ∧ ARow Z wr A b off := by
        rcases HAr.out with h | h
        · omega
        · exact h
      obtain ⟨b, off, rfl, hrow⟩ := hrow
      obtain ⟨c0, c1, c2, hsl⟩ := hrow.at hget
      have HG := Lib.hid hget
      have HD := Lib.hid hdrop
      have HSL := Lib.hid hsl
      clear hget hdrop hrow hsl
      have hbA : Below wr.heap.size wr (wr.alloc (.cells #[.int .i64 op', .int .i64 la', .slice p' of'.er.len cap'] 26)) := (Below.refl _ wr).alloc (Nat.le_refl _) _
      cases lf with
      | true =>
        gi_wp2
        go_ret
        rcases HSr.out with ⟨h, _⟩ | ⟨_, q, hq, hjx⟩
        · cases h
        · exact .inr ⟨rfl, ⟨q, hq, hJx _ _ _ none hjx (World.grownBy_alloc wr _ none) (fun r e => by cases e)⟩, HKr.out.t (KpT.below hbA)⟩
      | false =>
        obtain ⟨_, zs, rs, hys, hrs, hjr⟩ := HSr.out.resolve_right (fun h => by cases h.1)
        rw [HD.out] at hrs
        have hrs' : rs.map Subtype.val = (⟨op', la', p', cap', of'.er⟩ :: of'.list) ++ (A.drop (i + 1)).list := hrs
        obtain ⟨x1, rs1, rfl, hx1, hrs1⟩ := List.map_eq_append_iff.1 hrs'
        have hszo := Fms.size_get (Anf.er_get HG.out)
        have hw := (HIH.out.at HG.out) (n - 1) (pre ++ x0 :: zs) x1 (wr.alloc (.cells #[.int .i64 op', .int .i64 la', .slice p' of'.er.len cap'] 26)) hx1 (HSL.out.kp (KpT.below hbA)) (hJ _ _ _ none hjr (World.grownBy_alloc wr _ none) (fun r e => by cases e)) (by omega) (by rw [hys] at hN; simp at hN ⊢; omega)
        have HBA := Lib.hid hbA
        have HW := Lib.hid hw
        have HYS2 := Lib.hid hys
        have HRS1 := Lib.hid hrs1
        clear hw hbA hys hrs1 hrs hrs' hx1 hjr hszo HIH
        gi_wp2
        refine ⟨trivial, fun h => (by cases h), HW.out.mono ?_⟩
        rintro e W2 (⟨rfl, hj2, hk2⟩ | ⟨rfl, ⟨q, hq, hj2⟩, hk2⟩)
        · have HK2 := Lib.hid (HKr.out.t ((KpT.below HBA.out).t hk2))
          have HA2 := Lib.hid (HAr.out.kp ((KpT.below HBA.out).t hk2))
          have HJ2 := Lib.hid hj2
          clear hj2 hk2 c0 c1 c2
          gi_wp2
          go_roundw
          case rel =>
            refine ⟨i + 1, false, by simp, by simp, by omega, HK2, HA2, Lib.hid (.inl ⟨rfl, zs ++ x1, rs1, by rw [HYS2.out]; simp, HRS1.out, ?_⟩)⟩
            have := HJ2.out
            simpa using this
          case measure => simp [intOf]; omega
        · have HK2 := Lib.hid (HKr.out.t ((KpT.below HBA.out).t hk2))
          have HA2 := Lib.hid (HAr.out.kp ((KpT.below HBA.out).t hk2))
          have HJ2 := Lib.hid hj2
          have HQ := Lib.hid hq
          clear hj2 hk2 hq c0 c1 c2
          gi_wp2
          go_roundw
          case rel =>
            refine ⟨i + 1, true, by simp, by simp, by omega, HK2, HA2, Lib.hid (.inr ⟨rfl, x0 :: zs ++ q, ?_, ?_⟩)⟩
            · obtain ⟨t, ht⟩ := HQ.out
              exact ⟨t ++ rs1, by rw [HYS2.out, ← ht]; simp⟩
            · have := HJ2.out
              simpa using this
          case measure => simp [intOf]; omega
    · obtain rfl : i = A.er.len := by omega
      gi_wp2
      rw [noGoto_ret]
      go_ret
      rcases HSr.out with ⟨rfl, zs, rs, hys, hrs, hjr⟩ | ⟨rfl, h⟩
      · rw [Anf.drop_len] at hrs
        have : rs = [] := List.map_eq_nil_iff.1 hrs
        subst this
        exact .inl ⟨rfl, by rw [hys]; simpa using hjr, HKr.out⟩
      · exact .inr ⟨rfl, h, HKr.out⟩

theorem walk_says (hJ : AbidesFrom B J) (hJx : AbidesFrom B Jx)
    (hY : ∀ m pre x W, J pre W → pre.length < N → YieldAt Fence.wide m Tryd.prog l #[x.val.v] W fun e W' => (e = .returned (.bool true) ∧ J (pre ++ [x]) W' ∧ KpT Z W W') ∨ (e = .returned (.bool false) ∧ Jx (pre ++ [x]) W' ∧ KpT Z W W'))
    (op la : Int) (p : Option Addr) (cap : Nat) (A : Anf) : WalkSays Pp Z l N J Jx op la p cap A :=
  walk_step Pp Z l B N J Jx hJ hJx hY op la p cap A (Anf.all_of (walk_step Pp Z l B N J Jx hJ hJx hY) A)
#print axioms walk_says
end
end Go.Proofs.YthbkdbnalkeieaaDoor
