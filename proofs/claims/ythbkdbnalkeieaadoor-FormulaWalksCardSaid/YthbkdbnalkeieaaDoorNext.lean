/- A range over a function, and walk, where the round knows which thing is next. -/
import Derived.Test.YthbkdbnalkeieaaDoorWalk2
namespace Go.Proofs.YthbkdbnalkeieaaDoor
open Go.RowKit Go.Sort Go.Shelf

section
variable {F : Fence} {n : Nat} {P : Program}
/-- An iterator's word. -/
def IterX {α : Type} (F : Fence) (n : Nat) (P : Program) (g : Nat) (lb : Array Value) (encs : α → Array Value) (Kp : World → World → Prop) (S Sp : List α → Prop) (XS : List α) (w : World) : Prop :=
  ∀ (l : Nat) (J Jx : List α → World → Prop) (W : World), Below w.heap.size w W → AbidesFrom W.heap.size J → AbidesFrom W.heap.size Jx →
    (∀ pre x W1, J pre W1 → pre ++ [x] <+: XS → YieldAt F (n - 1) P l (encs x) W1 fun e W' =>
      (e = .returned (.bool true) ∧ J (pre ++ [x]) W' ∧ Kp W1 W') ∨ (e = .returned (.bool false) ∧ Jx (pre ++ [x]) W' ∧ Kp W1 W')) →
    J [] W →
    CallsIn F n P g (#[.func (.yield l) #[] #[]] ++ lb) W fun e W' => (∃ v, e = .returned v) ∧ ((∃ xs, S xs ∧ J xs W') ∨ (∃ pre, Sp pre ∧ Jx pre W'))

set_option maxHeartbeats 1000000 in
theorem range_lawX {α : Type} {g : Operand} {ps : Array Tmp} {assign body : Code} {Q : Exit → Act → World → Prop} {a : Act} {w : World}
    (hro : F.round = none) (h1 : 1 ≤ n) {gf : Nat} {lb : Array Value} (hg : a.eval g = .func (.func gf) #[] lb) (hFg : F.fn gf) (eg : ∀ args w, (callFunc gf args).run P w = .ok (.enter gf args) w)
    {encs : α → Array Value} {Kp : World → World → Prop} {S Sp : List α → Prop} {XS : List α} (hseq : IterX F (n - 1) P gf lb encs Kp S Sp XS w)
    (hKt : ∀ {A B C : World}, Kp A B → Kp B C → Kp A C) (hKb : ∀ (W : World) (l : Nat) (o o' : Obj), W.heap[l]? = some o → o.isCells = false → Kp W (W.putObj l o')) (hps : ∀ x, (encs x).size = ps.size)
    (I : List α → World → Prop) (Ix : Code → List α → World → Prop) (hI : OwnFrom w.heap.size I) (hIx : ∀ c, OwnFrom w.heap.size (Ix c)) (h0 : I [] w) (Ax : Nat → α → Act → World → Prop) (hAx : ∀ D x a' W l o o', Ax D x a' W → W.heap[l]? = some o → o.isCells = false → Ax D x a' (W.putObj l o'))
    (hassign : ∀ (l : Nat) (pre : List α) (x : α) (W : World) (K : Act → World → Prop), I pre W → (∀ a' W', KeepsOthers W W' → Kp W W' → I pre W' → Ax W.heap.size x a' W' → K a' W') →
      assign.wpIn (F.inRound l) (n - 1 - 1) P (Exit.then K (fun _ _ _ => False)) { tmps := (ps.zip (encs x)).foldl (fun t (p, v) => t.setIfInBounds p v) a.tmps, defers := [] } W)
    (hbody : ∀ (l D : Nat) (pre : List α) (x : α) (a' : Act) (W : World), I pre W → Ax D x a' W → w.heap.size + 1 < D → pre ++ [x] <+: XS → body.wpIn (F.inRound l) (n - 1 - 1) P (Rounds Kp I Ix (pre ++ [x]) W) a' W)
    (hdone : ∀ (D : Nat) (xs : List α) (W : World), w.heap.size ≤ D → S xs → I xs W → W.heap[D]? = some (.deferred (some [])) → Q .normal { a with defers := { target := .collected D, args := #[] } :: a.defers } W)
    (hstop : ∀ (D : Nat) (c : Code) (pre : List α) (W : World), w.heap.size ≤ D → Sp pre → Ix c pre W → W.heap[D]? = some (.deferred (some [])) → c.wpIn F n P Q { a with defers := { target := .collected D, args := #[] } :: a.defers } W) :
    (Code.rangeFunc g ps assign body).wpIn F n P Q a w := by
  apply wpIn_rangeFunc
  intro fn hfn
  rw [hro]
  have ⟨rec, hrec⟩ : ∃ rec : LoopState → Option Code → Loop, rec = fun st pe => { state := st, pending := pe, fn, tmps := a.tmps, params := ps, assign, body, defers := w.heap.size } := ⟨_, rfl⟩
  have ⟨X, hX⟩ : ∃ X, X = (w.alloc (.deferred (some []))).alloc (.loop (rec .ready none)) := ⟨_, rfl⟩
  have xl : X.heap[w.heap.size + 1]? = some (.loop (rec .ready none)) := by
    have := World.alloc_heap_new (w.alloc (.deferred (some []))) (.loop (rec .ready none))
    rw [World.size_alloc] at this
    rw [hX]; exact this
  have xd : X.heap[w.heap.size]? = some (.deferred (some [])) := by
    rw [hX]; exact (Below.heap_alloc _ _ _ (by simp)).trans (World.alloc_heap_new w _)
  have xi : I [] X := by rw [hX]; exact hI.alloc _ (hI.alloc _ h0)
  have xb : Below w.heap.size w X := by rw [hX]; exact ((Below.refl _ w).alloc (Nat.le_refl _) _).alloc (by simp) _
  have xs : w.heap.size + 2 = X.heap.size := by rw [hX]; simp
  -- the record and the mark in a world
  have ⟨Bk, hBk⟩ : ∃ Bk : LoopState → Option Code → World → Prop, Bk = fun st pe W => W.heap[w.heap.size + 1]? = some (.loop (rec st pe)) ∧ W.heap[w.heap.size]? = some (.deferred (some [])) := ⟨_, rfl⟩
  have walks : ∀ {st : LoopState} {pe : Option Code} {A B : World} {row : Option Nat}, Bk st pe A → A.grownBy B row → (∀ r, row = some r → X.heap.size ≤ r ∧ ∃ o : Obj, A.heap[r]? = some o ∧ o.isWalk = true) → Bk st pe B := by
    intro st pe A B row hb hg' hr
    rw [hBk] at hb ⊢
    exact ⟨(grownBy_keeps hg' (fun r e => (hr r e).2) hb.1 rfl).trans hb.1, (grownBy_keeps hg' (fun r e => (hr r e).2) hb.2 rfl).trans hb.2⟩
  have cells : ∀ {A : World} {row : Option Nat}, (∀ r, row = some r → X.heap.size ≤ r ∧ ∃ o : Obj, A.heap[r]? = some o ∧ o.isWalk = true) → ∀ r, row = some r → w.heap.size ≤ r ∧ ∃ o : Obj, A.heap[r]? = some o ∧ o.isCells = false := by
    intro A row hr r e
    obtain ⟨hB, o, ho, hw⟩ := hr r e
    exact ⟨by omega, o, ho, Obj.not_cells_of_walk hw⟩
  refine ⟨w.heap.size + 1, [{ target := .collected w.heap.size, args := #[] }], X, { target := .fn (.func gf) lb, args := #[.func (.yield (w.heap.size + 1)) #[] #[]] }, X, gf,
    #[.func (.yield (w.heap.size + 1)) #[] #[]] ++ lb, X, ?_, ?_, ?_, ?_, fun _ => h1, ?_⟩
  · rw [hX, hrec]; exact run_enterLoop_outer _ _ _ _ _
  · simp only [resolve, hg]
    simp [go_sem]
  · intro f' hf'
    simp [Target.leads] at hf'
    subst hf'
    exact hFg
  · simp [invoke, go_sem, eg]
  refine (hseq (w.heap.size + 1) (fun pre W => I pre W ∧ Bk .ready none W) (fun pre W => ∃ c, Ix c pre W ∧ Bk .done (some c) W) X xb
    (fun s A B row hs hg' hr => ⟨hI s A B row hs.1 hg' (cells hr), walks hs.2 hg' hr⟩)
    (fun s A B row ⟨c, hc, hs⟩ hg' hr => ⟨c, hIx c s A B row hc hg' (cells hr), walks hs hg' hr⟩) ?_ ⟨xi, by rw [hBk]; exact ⟨xl, xd⟩⟩).mono ?_
  · rintro pre x W ⟨hi, hb⟩ hpN
    have hb0 := hb
    rw [hBk] at hb
    obtain ⟨hl, hk⟩ := hb
    have hlt := lt_of_block hl
    have hy := run_yield (P := P) (args := encs x) hl (by rw [hrec]; exact hps x)
    rw [hrec] at hy
    refine ⟨fn, _, assign, body, hy, roundIn_of_wpIn hfn (hassign _ pre x W _ hi ?_)⟩
    intro a' W' hko hkp hi' hax
    have hl' := hko.same _ _ hl rfl
    have hk' := hko.same _ _ hk rfl
    have hlt' := lt_of_block hl'
    have ⟨V, hV⟩ : ∃ V, V = W'.putObj (w.heap.size + 1) (.loop { rec .ready none with state := .busy }) := ⟨_, rfl⟩
    have vl : V.heap[w.heap.size + 1]? = some (.loop { rec .ready none with state := .busy }) := by rw [hV]; exact World.putObj_heap_same hlt'
    have vk : V.heap[w.heap.size]? = some (.deferred (some [])) := by rw [hV]; exact (World.putObj_heap_other (by omega)).trans hk'
    have vkp : Kp W V := by rw [hV]; exact hKt hkp (hKb _ _ _ _ hl' rfl)
    have vi : I pre V := by rw [hV]; exact hI.putObj _ hi' (by omega) hl' rfl
    have vax : Ax W.heap.size x a' V := by rw [hV]; exact hAx _ _ _ _ _ _ _ hax hl' rfl
    refine ⟨V, ?_, wpIn_mono (hbody _ W.heap.size pre x a' V vi vax hlt hpN) ?_⟩
    · have := run_beginRound (P := P) hl' (by rw [hrec])
      rw [this, hV]
    -- the round's end
    have close : ∀ (jump : Option Code) (W3 : World), KeepsOthers V W3 →
        (Instr.endRound (w.heap.size + 1) jump).run P W3 = .ok (.bool jump.isNone) (W3.putObj (w.heap.size + 1) (.loop (rec (if jump.isNone then .ready else .done) jump))) ∧
        (∃ o, W3.heap[w.heap.size + 1]? = some o ∧ o.isCells = false) ∧ Bk (if jump.isNone then .ready else .done) jump (W3.putObj (w.heap.size + 1) (.loop (rec (if jump.isNone then .ready else .done) jump))) := by
      intro jump W3 h3
      have l3 := h3.same _ _ vl rfl
      have this := run_endRound (P := P) jump l3
      rw [hBk]
      refine ⟨by rw [hrec] at this ⊢; exact this, ⟨_, l3, rfl⟩, World.putObj_heap_same (lt_of_block l3), (World.putObj_heap_other (by omega)).trans (h3.same _ _ vk rfl)⟩
    intro e a3 W3 hp
    cases e with
    | normal =>
      obtain ⟨h3, k3, i3⟩ := hp
      obtain ⟨hr, ⟨o, ho, hoc⟩, b3⟩ := close none W3 h3
      exact ⟨_, _, hr, .inl ⟨rfl, ⟨hI.putObj _ i3 (by omega) ho hoc, b3⟩, hKt (hKt vkp k3) (hKb _ _ _ _ ho hoc)⟩⟩
    | ret =>
      obtain ⟨h3, k3, i3⟩ := hp
      obtain ⟨hr, ⟨o, ho, hoc⟩, b3⟩ := close (some .ret) W3 h3
      exact ⟨_, _, hr, .inr ⟨rfl, ⟨.ret, (hIx _).putObj _ i3 (by omega) ho hoc, b3⟩, hKt (hKt vkp k3) (hKb _ _ _ _ ho hoc)⟩⟩
    | exit id =>
      obtain ⟨h3, k3, i3⟩ := hp
      obtain ⟨hr, ⟨o, ho, hoc⟩, b3⟩ := close (some (.exit id)) W3 h3
      exact ⟨_, _, hr, .inr ⟨rfl, ⟨.exit id, (hIx _).putObj _ i3 (by omega) ho hoc, b3⟩, hKt (hKt vkp k3) (hKb _ _ _ _ ho hoc)⟩⟩
    | goto t => exact hp.elim
    | panic ch => exact hp.elim
    | outgrown => exact hp.elim
  · rintro e W2 ⟨⟨v, rfl⟩, (⟨ys, hS, hi, hb⟩ | ⟨pre, hSp, c, hi, hb⟩)⟩
    · rw [hBk] at hb
      refine ⟨none, _, by have := run_endLoop (P := P) hb.1 (by rw [hrec]; simp); rw [hrec] at this; exact this, hdone _ ys _ (Nat.le_refl _) hS (hI.putObj _ hi (by omega) hb.1 rfl) ((World.putObj_heap_other (by omega)).trans hb.2)⟩
    · rw [hBk] at hb
      refine ⟨some c, _, by have := run_endLoop (P := P) hb.1 (by rw [hrec]; simp); rw [hrec] at this; exact this, hstop _ c pre _ (Nat.le_refl _) hSp ((hIx c).putObj _ hi (by omega) hb.1 rfl) ((World.putObj_heap_other (by omega)).trans hb.2)⟩
end
attribute [local go_sem] Oper.semAt_some
section
variable (Pp : Part → Prop) (Z : Nat → Prop) (l B : Nat) (XS : List { x // Pp x }) (J Jx : List { x // Pp x } → World → Prop)

def WalkEndX (pre xs : List { x // Pp x }) (W : World) (e : Ending) (W' : World) : Prop :=
  (e = .returned (.bool true) ∧ J (pre ++ xs) W' ∧ KpT Z W W') ∨ (e = .returned (.bool false) ∧ (∃ q, q <+: xs ∧ Jx (pre ++ q) W') ∧ KpT Z W W')

def WalkSaysX (op la : Int) (p : Option Addr) (cap : Nat) (A : Anf) : Prop :=
  ∀ (n : Nat) (pre xs : List { x // Pp x }) (W : World), xs.map Subtype.val = ⟨op, la, p, cap, A.er⟩ :: A.list → ASl Z W p A → J pre W → A.er.size ≤ 1000000 → pre ++ xs <+: XS →
    CallsIn Fence.wide n Tryd.prog 46 #[.agg #[.int .i64 op, .int .i64 la, .slice p A.er.len cap], .func (.yield l) #[] #[]] W fun e W' => WalkEndX Pp Z J Jx pre xs W e W'

set_option maxHeartbeats 4000000 in
set_option maxRecDepth 100000 in
theorem walk_stepX (hJ : AbidesFrom B J) (hJx : AbidesFrom B Jx)
    (hY : ∀ m pre x W, J pre W → pre ++ [x] <+: XS → YieldAt Fence.wide m Tryd.prog l #[x.val.v] W fun e W' => (e = .returned (.bool true) ∧ J (pre ++ [x]) W' ∧ KpT Z W W') ∨ (e = .returned (.bool false) ∧ Jx (pre ++ [x]) W' ∧ KpT Z W W'))
    (op la : Int) (p : Option Addr) (cap : Nat) (A : Anf) (IH : A.All (WalkSaysX Pp Z l XS J Jx)) : WalkSaysX Pp Z l XS J Jx op la p cap A := by
  intro n pre xs W hxs hA hj hlen0 hN
  have hlen : A.er.len ≤ 1000000 := Nat.le_trans (Fms.len_le_size _) hlen0
  obtain ⟨x0, ys, rfl, hx0, hys⟩ := List.map_eq_cons_iff.1 hxs
  obtain ⟨V, hV⟩ : ∃ V, V = W.alloc (.cells #[.int .i64 op, .int .i64 la, .slice p A.er.len cap] 26) := ⟨_, rfl⟩
  have hbV : Below W.heap.size W V := by rw [hV]; exact (Below.refl _ W).alloc (Nat.le_refl _) _
  have hkV : V.heap[W.heap.size]? = some (.cells #[In op, In la, .slice p A.er.len cap] 26 (0, 0)) := by rw [hV]; exact block_alloc_new W _
  have hjV : J pre V := by rw [hV]; exact hJ _ _ _ none hj (World.grownBy_alloc W _ none) (fun r e => by cases e)
  obtain ⟨bx, hbx⟩ : ∃ bx, bx = W.heap.size := ⟨_, rfl⟩
  rw [← hbx] at hkV
  obtain ⟨fn, tmps, assign, body, hy, hR⟩ := hY (n - 1) pre x0 V hjV (List.IsPrefix.trans ⟨ys, by simp⟩ hN)
  have hv0 : x0.val.v = .agg #[.int .i64 op, .int .i64 la, .slice p A.er.len cap] := by rw [hx0]; rfl
  rw [hv0] at hy
  have HR := Lib.hid hR
  have HA := Lib.hid (hA.kp (KpT.below hbV))
  have HIH := Lib.hid IH
  have HK := Lib.hid hkV
  have HYS := Lib.hid hys
  have HBV := Lib.hid hbV
  clear hR hA IH hkV hys hxs hx0 hv0 hj hjV hbV hY
  refine callsIn_of_wp Tryd.func46 rfl trivial ?_ rfl
  simp only [Tryd.ntmps46, List.size_toArray, List.length_cons, List.length_nil, Nat.reduceAdd, Nat.reduceSub, Array.replicate_succ, Array.replicate_zero, List.push_toArray, List.append_toArray, List.nil_append, List.cons_append]
  have hend : ∀ (e : Ending) (W' : World), ((e = .returned (.bool true) ∧ J (pre ++ [x0]) W' ∧ KpT Z V W') ∨ (e = .returned (.bool false) ∧ Jx (pre ++ [x0]) W' ∧ KpT Z V W')) →
      ∃ left : Bool, e = .returned (.bool (!left)) ∧ KpT Z W W' ∧ W'.heap[bx]? = some (.cells #[In op, In la, .slice p A.er.len cap] 26 (0, 0)) ∧ ASl Z W' p A ∧
        ((left = false ∧ J (pre ++ [x0]) W') ∨ (left = true ∧ ∃ q, q <+: x0 :: ys ∧ Jx (pre ++ q) W')) := by
    rintro e W' (⟨rfl, h1, h2⟩ | ⟨rfl, h1, h2⟩)
    · exact ⟨false, rfl, (KpT.below HBV.out).t h2, h2 _ _ _ _ (.inr rfl) HK.out, HA.out.kp h2, .inl ⟨rfl, h1⟩⟩
    · exact ⟨true, rfl, (KpT.below HBV.out).t h2, h2 _ _ _ _ (.inr rfl) HK.out, HA.out.kp h2, .inr ⟨rfl, [x0], ⟨ys, rfl⟩, h1⟩⟩
  have HE := Lib.hid hend
  clear hend
  gi_wp2
  rw [← hV, ← hbx]
  clear hV hbx
  have c0 := cell_of (o := 0) (v := In op) HK.out rfl
  have c1 := cell_of (o := 1) (v := In la) HK.out rfl
  have c2 := cell_of (o := 2) (v := .slice p A.er.len cap) HK.out rfl
  refine wpIn_scope_wide ?_
  gi_wp2
  refine ⟨fun h => (by cases h), HR.out.mono ?_⟩
  intro e W1 h
  obtain ⟨left, rfl, hk1, hbx, hA1, hst⟩ := HE.out e W1 h
  have HK1 := Lib.hid hk1
  have HBX := Lib.hid hbx
  have HA1 := Lib.hid hA1
  have HST := Lib.hid hst
  clear h hk1 hbx hA1 hst HE HA HK HBV c0 c1 c2
  have c2 := cell_of (o := 2) (v := .slice p A.er.len cap) HBX.out rfl
  gi_wp2
  refine wpIn_label ?_
  simp only [Exit.then]
  gi_wp2
  clear c2
  gi_loopw [5, 15] (fun s5 s15 wr => ∃ (i : Nat) (left : Bool), s5 = .bool left ∧ s15 = .int .i64 i ∧ i ≤ A.er.len ∧ Hid (KpT Z W wr) ∧ Hid (ASl Z wr p A) ∧
      Hid ((left = false ∧ ∃ zs rs, ys = zs ++ rs ∧ rs.map Subtype.val = (A.drop i).list ∧ J (pre ++ x0 :: zs) wr) ∨ (left = true ∧ ∃ q, q <+: x0 :: ys ∧ Jx (pre ++ q) wr)))
    (fun _ i _ => A.er.len - (intOf i).toNat)
  case atStart =>
    refine ⟨0, left, by simp, rfl, Nat.zero_le _, HK1, HA1, Lib.hid ?_⟩
    rcases HST.out with ⟨rfl, h⟩ | ⟨rfl, h⟩
    · exact .inl ⟨rfl, [], ys, rfl, by rw [HYS.out]; cases A <;> rfl, h⟩
    · exact .inr ⟨rfl, h⟩
  case round =>
    obtain ⟨i, lf, rfl, rfl, hi, HKr, HAr, HSr⟩ := hrel
    clear HST HA1 HK1 HBX
    by_cases hlt : i < A.er.len
    · obtain ⟨op', la', p', cap', of', hget, hdrop⟩ := Anf.drop_get hlt
      have hlt' : (i : Int) < (A.er.len : Int) := by omega
      have hrow : ∃ b off, p = some ⟨b, off, none⟩ ∧ ARow Z wr A b off := by
        rcases HAr.out with h | h
        · omega
        · exact h
      obtain ⟨b, off, rfl, hrow⟩ := hrow
      obtain ⟨c0, c1, c2, hsl⟩ := hrow.at hget
      have HG := Lib.hid hget
      have HD := Lib.hid hdrop
      have HSL := Lib.hid hsl
      clear hget hdrop hrow hsl
      have hbA : Below wr.heap.size wr (wr.alloc (.cells #[.int .i64 op', .int .i64 la', .slice p' of'.er.len cap'] 26)) := (Below.refl _ wr).alloc (Nat.le_refl _) _
      cases lf with
      | true =>
        gi_wp2
        go_ret
        rcases HSr.out with ⟨h, _⟩ | ⟨_, q, hq, hjx⟩
        · cases h
        · exact .inr ⟨rfl, ⟨q, hq, hJx _ _ _ none hjx (World.grownBy_alloc wr _ none) (fun r e => by cases e)⟩, HKr.out.t (KpT.below hbA)⟩
      | false =>
        obtain ⟨_, zs, rs, hys, hrs, hjr⟩ := HSr.out.resolve_right (fun h => by cases h.1)
        rw [HD.out] at hrs
        have hrs' : rs.map Subtype.val = (⟨op', la', p', cap', of'.er⟩ :: of'.list) ++ (A.drop (i + 1)).list := hrs
        obtain ⟨x1, rs1, rfl, hx1, hrs1⟩ := List.map_eq_append_iff.1 hrs'
        have hszo := Fms.size_get (Anf.er_get HG.out)
        have hw := (HIH.out.at HG.out) (n - 1) (pre ++ x0 :: zs) x1 (wr.alloc (.cells #[.int .i64 op', .int .i64 la', .slice p' of'.er.len cap'] 26)) hx1 (HSL.out.kp (KpT.below hbA)) (hJ _ _ _ none hjr (World.grownBy_alloc wr _ none) (fun r e => by cases e)) (by omega) (by rw [hys] at hN; exact List.IsPrefix.trans ⟨rs1, by simp⟩ hN)
        have HBA := Lib.hid hbA
        have HW := Lib.hid hw
        have HYS2 := Lib.hid hys
        have HRS1 := Lib.hid hrs1
        clear hw hbA hys hrs1 hrs hrs' hx1 hjr hszo HIH
        gi_wp2
        refine ⟨trivial, fun h => (by cases h), HW.out.mono ?_⟩
        rintro e W2 (⟨rfl, hj2, hk2⟩ | ⟨rfl, ⟨q, hq, hj2⟩, hk2⟩)
        · have HK2 := Lib.hid (HKr.out.t ((KpT.below HBA.out).t hk2))
          have HA2 := Lib.hid (HAr.out.kp ((KpT.below HBA.out).t hk2))
          have HJ2 := Lib.hid hj2
          clear hj2 hk2 c0 c1 c2
          gi_wp2
          go_roundw
          case rel =>
            refine ⟨i + 1, false, by simp, by simp, by omega, HK2, HA2, Lib.hid (.inl ⟨rfl, zs ++ x1, rs1, by rw [HYS2.out]; simp, HRS1.out, ?_⟩)⟩
            have := HJ2.out
            simpa using this
          case measure => simp [intOf]; omega
        · have HK2 := Lib.hid (HKr.out.t ((KpT.below HBA.out).t hk2))
          have HA2 := Lib.hid (HAr.out.kp ((KpT.below HBA.out).t hk2))
          have HJ2 := Lib.hid hj2
          have HQ := Lib.hid hq
          clear hj2 hk2 hq c0 c1 c2
          gi_wp2
          go_roundw
          case rel =>
            refine ⟨i + 1, true, by simp, by simp, by omega, HK2, HA2, Lib.hid (.inr ⟨rfl, x0 :: zs ++ q, ?_, ?_⟩)⟩
            · obtain ⟨t, ht⟩ := HQ.out
              exact ⟨t ++ rs1, by rw [HYS2.out, ← ht]; simp⟩
            · have := HJ2.out
              simpa using this
          case measure => simp [intOf]; omega
    · obtain rfl : i = A.er.len := by omega
      gi_wp2
      rw [noGoto_ret]
      go_ret
      rcases HSr.out with ⟨rfl, zs, rs, hys, hrs, hjr⟩ | ⟨rfl, h⟩
      · rw [Anf.drop_len] at hrs
        have : rs = [] := List.map_eq_nil_iff.1 hrs
        subst this
        exact .inl ⟨rfl, by rw [hys]; simpa using hjr, HKr.out⟩
      · exact .inr ⟨rfl, h, HKr.out⟩

theorem walk_saysX (hJ : AbidesFrom B J) (hJx : AbidesFrom B Jx)
    (hY : ∀ m pre x W, J pre W → pre ++ [x] <+: XS → YieldAt Fence.wide m Tryd.prog l #[x.val.v] W fun e W' => (e = .returned (.bool true) ∧ J (pre ++ [x]) W' ∧ KpT Z W W') ∨ (e = .returned (.bool false) ∧ Jx (pre ++ [x]) W' ∧ KpT Z W W'))
    (op la : Int) (p : Option Addr) (cap : Nat) (A : Anf) : WalkSaysX Pp Z l XS J Jx op la p cap A :=
  walk_stepX Pp Z l B XS J Jx hJ hJx hY op la p cap A (Anf.all_of (walk_stepX Pp Z l B XS J Jx hJ hJx hY) A)
#print axioms walk_saysX
end
set_option maxHeartbeats 2000000 in
set_option maxRecDepth 100000 in
theorem walk_iterX (Pp : Part → Prop) (Z : Nat → Prop) (n bx : Nat) (op la : Int) (p : Option Addr) (cap : Nat) (A : Anf) (w : World) (hbx : w.heap[bx]? = some (.cells #[In op, In la, .slice p A.er.len cap] 26 (0, 0))) (hA : ASl Z w p A) (hsz : A.er.size ≤ 1000000)
    (xs : List { x // Pp x }) (hxs : xs.map Subtype.val = ⟨op, la, p, cap, A.er⟩ :: A.list) :
    IterX Fence.wide n Tryd.prog 45 #[.pointer (some ⟨bx, 0, none⟩)] (fun x : { x // Pp x } => #[x.val.v]) (KpT Z) (fun ys => ys = xs) (fun pre => pre <+: xs) xs w := by
  intro l J Jx W hW hJ hJx hY h0
  have hb := (hW.block bx (lt_of_block hbx)).trans hbx
  have c0 := cell_of (o := 0) (v := In op) hb rfl
  have c1 := cell_of (o := 1) (v := In la) hb rfl
  have c2 := cell_of (o := 2) (v := .slice p A.er.len cap) hb rfl
  have HW := Lib.hid (walk_saysX Pp Z l W.heap.size xs J Jx hJ hJx (fun m pre x W1 hj hl => YieldAt.wideDepth m (hY pre x W1 hj hl)) op la p cap A (n - 1) [] xs W hxs (hA.kp (KpT.below hW)) h0 hsz ⟨[], by simp⟩)
  clear hb hbx hA hY hxs
  refine callsIn_of_wp Tryd.func45 rfl trivial ?_ rfl
  simp only [Tryd.ntmps45, List.size_toArray, List.length_cons, List.length_nil, Nat.reduceAdd, Nat.reduceSub, Array.replicate_succ, Array.replicate_zero, List.push_toArray, List.append_toArray, List.nil_append, List.cons_append]
  gi_wp2
  refine ⟨trivial, fun h => (by cases h), HW.out.mono ?_⟩
  rintro e W2 (⟨rfl, hj2, _⟩ | ⟨rfl, ⟨q, hq, hj2⟩, _⟩)
  · gi_wp2
    go_end0
    exact ⟨⟨_, rfl⟩, .inl ⟨xs, rfl, hj2⟩⟩
  · gi_wp2
    go_end0
    exact ⟨⟨_, rfl⟩, .inr ⟨q, hq, hj2⟩⟩

end Go.Proofs.YthbkdbnalkeieaaDoor
