/- What Walk hands back, in one form for formulas that may be and others; the parts of a formula as a list. -/
import Derived.Test.YthbkdbnalkeieaaDoorRWalk
import Derived.Test.YthbkdbnalkeieaaDoorNext
import Derived.Test.YthbkdbnalkeieaaDoorLayers
namespace Go.Proofs.YthbkdbnalkeieaaDoor
open Go.RowKit Go.Sort Go.Shelf

attribute [local go_sem] Oper.semAt_some

def Fms.toL : Fms → List (Int × Int × Fms)
  | .nil => []
  | .cons op la of r => (op, la, of) :: r.toL
theorem Fms.toL_app : ∀ F G : Fms, (F.app G).toL = F.toL ++ G.toL
  | .nil, _ => rfl
  | .cons op la of r, G => by simp [Fms.app, Fms.toL, Fms.toL_app r G]
theorem Fms.toL_len : ∀ F : Fms, F.toL.length = F.len
  | .nil => rfl
  | .cons op la of r => by simp [Fms.toL, Fms.len, Fms.toL_len r]
theorem Fms.toL_get : ∀ (F : Fms) (i : Nat), F.toL[i]? = F.get i
  | .nil, _ => by simp [Fms.toL, Fms.get]
  | .cons op la of r, 0 => by simp [Fms.toL, Fms.get]
  | .cons op la of r, i + 1 => by simpa [Fms.toL, Fms.get] using Fms.toL_get r i
def Part.e (x : Part) : Int × Int × Fms := (x.op, x.la, x.of)
theorem anf_list : ∀ A : Anf, A.list.map Part.e = (wkR A.er).toL
  | .nil => rfl
  | .cons op la p cap of r => by simp [Anf.list, Anf.er, wkR, Fms.toL, Fms.toL_app, anf_list of, anf_list r, Part.e]

theorem IterX.later {α : Type} {F : Fence} {n : Nat} {P : Program} {g : Nat} {lb : Array Value} {encs : α → Array Value} {Kp : World → World → Prop} {S Sp : List α → Prop} {XS : List α} {w V : World}
    (h : IterX F n P g lb encs Kp S Sp XS w) (hb : Below w.heap.size w V) : IterX F n P g lb encs Kp S Sp XS V :=
  fun l J Jx W hW => h l J Jx W (hb.trans (hW.mono hb.size))

set_option maxHeartbeats 1000000 in
theorem none_iter {α : Type} (encs : α → Array Value) (Kp : World → World → Prop) (n : Nat) (w : World) :
    IterX Fence.wide n Tryd.prog 43 #[] encs Kp (fun ys => ys = []) (fun pre => pre <+: []) [] w := by
  intro l J Jx W hW hJ hJx hY h0
  clear hY
  refine callsIn_of_wp Tryd.func43 rfl trivial ?_ rfl
  simp only [Tryd.ntmps43, List.size_toArray, List.length_cons, List.length_nil, Nat.reduceAdd, Nat.reduceSub, Array.replicate_succ, Array.replicate_zero, List.push_toArray, List.append_toArray, List.nil_append, List.cons_append]
  gi_wp2
  go_end0
  exact ⟨⟨_, rfl⟩, .inl ⟨[], rfl, h0⟩⟩

/-- The parts of a formula that may be; else none. -/
def partsF (op la : Int) (of : Fms) : List (Int × Int × Fms) := if chk op la of = 0 then (op, la, of) :: (wkR of).toL else []

theorem partsF_len (op la : Int) (of : Fms) : (partsF op la of).length ≤ of.size + 1 := by
  unfold partsF
  split
  · simp [Fms.toL_len, wkR_len]
  · simp
theorem wkR_size : ∀ (F : Fms), ∀ x ∈ (wkR F).toL, x.2.2.size ≤ F.size
  | .nil, x, hx => by simp [wkR, Fms.toL] at hx
  | .cons op la of r, x, hx => by
    simp only [wkR, Fms.toL, Fms.toL_app, List.mem_cons, List.mem_append] at hx
    rcases hx with rfl | hx | hx
    · simp [Fms.size]; omega
    · have := wkR_size of x hx; simp [Fms.size]; omega
    · have := wkR_size r x hx; simp [Fms.size]; omega
theorem partsF_size (op la : Int) (of : Fms) : ∀ x ∈ partsF op la of, x.2.2.size ≤ of.size := by
  intro x hx
  unfold partsF at hx
  split at hx
  · rcases List.mem_cons.1 hx with rfl | hx
    · exact Nat.le_refl _
    · exact wkR_size of x hx
  · cases hx
/-- An iterator over parts that lie in Z. -/
def SeqOk (B : Nat) (w : World) (f : Value) (L : List (Int × Int × Fms)) : Prop :=
  ∃ (g : Nat) (lb : Array Value) (Z : Nat → Prop) (xs : List LP), f = .func (.func g) #[] lb ∧ (∀ args w, (callFunc g args).run Tryd.prog w = .ok (.enter g args) w) ∧ xs.map (fun x => x.val.e) = L ∧
    (∀ k, Z k → B ≤ k ∧ k < w.heap.size) ∧ (∀ x ∈ xs, SlZ Z w x.val.s x.val.of) ∧
    ∀ n, IterX Fence.wide n Tryd.prog g lb (fun x : LP => #[x.val.v]) (KpT Z) (fun ys => ys = xs) (fun pre => pre <+: xs) xs w

theorem Walk_any (op la : Int) (of : Fms) (s : Value) (w : World) (hsz : of.size < 1000000) (hs : SlIs w s of) :
    Calls Tryd.prog 25 #[.agg #[.int .i64 op, .int .i64 la, s]] w fun e w' => (∃ f, e = .returned f ∧ SeqOk w.heap.size w' f (partsF op la of)) ∧ Below w.heap.size w w' := by
  by_cases hc : chk op la of = 0
  · refine (Walk_ok op la of s w hc hsz hs).mono ?_
    rintro e w' ⟨bx, p, cap, A, rfl, hbx, rfl, hA, hb⟩
    refine ⟨⟨_, rfl, 45, #[.pointer (some ⟨bx, 0, none⟩)], (fun k => w.heap.size ≤ k ∧ k < w'.heap.size), (⟨op, la, p, cap, A.er⟩ :: A.list).map fun x => (⟨x, trivial⟩ : LP), rfl, enters_of Tryd.func45 (by kernel_rfl) rfl, ?_, fun k hk => hk, ?_, fun n => ?_⟩, hb⟩
    · rw [List.map_map, partsF, if_pos hc, ← anf_list]
      rfl
    · intro x hx
      obtain ⟨y, hy, rfl⟩ := List.mem_map.1 hx
      rcases List.mem_cons.1 hy with rfl | hy
      · exact hA.sl cap
      · exact hA.parts y hy
    · exact walk_iterX (fun _ => True) _ n bx op la p cap A w' hbx hA (by omega) _ (by rw [List.map_map]; exact List.map_id'' (fun _ => rfl) _)
  · refine (Walk_bad op la of s w hc hsz hs).mono ?_
    rintro e w' ⟨rfl, hb⟩
    exact ⟨⟨_, rfl, 43, #[], (fun _ => False), [], rfl, enters_of Tryd.func43 (by kernel_rfl) rfl, by rw [partsF, if_neg hc]; rfl, (fun k hk => hk.elim), (fun x hx => by cases hx), fun n => none_iter _ _ n w'⟩, hb⟩

/-- The reference's row of parts. -/
def WantAt (w : World) (v : Value) (L : List (Int × Int × Fms)) : Prop :=
  ∃ p cap, v = .slice p L.length cap ∧ ∀ i o l f, L[i]? = some (o, l, f) → ∃ b off, p = some ⟨b, off, none⟩ ∧ ∃ q c, w.cell? ⟨b, off + i * 3, none⟩ = some (In o) ∧ w.cell? ⟨b, off + i * 3 + 1, none⟩ = some (In l) ∧ w.cell? ⟨b, off + i * 3 + 2, none⟩ = some (.slice q f.len c) ∧ SlIs w (.slice q f.len c) f
theorem WantAt.later {w V : World} {v : Value} {L : List (Int × Int × Fms)} (h : WantAt w v L) (hb : Below w.heap.size w V) : WantAt V v L := by
  obtain ⟨p, cap, e, h⟩ := h
  refine ⟨p, cap, e, fun i o l f hi => ?_⟩
  obtain ⟨b, off, e1, q, c, h1, h2, h3, h4⟩ := h i o l f hi
  have k : ∀ {p : Addr} {v : Value}, w.cell? p = some v → V.cell? p = some v := fun e => (hb.cell (World.block_lt_of_cell? w _ e)).trans e
  exact ⟨b, off, e1, q, c, k h1, k h2, k h3, h4.later hb⟩
theorem wantAt_nil (w : World) : WantAt w (.slice none 0 0) [] := ⟨none, 0, rfl, fun i o l f hi => by simp at hi⟩
theorem wantAt_rwalk {w w' : World} {op la : Int} {of : Fms} {v : Value} {xs : List Value} {B : Nat} (ho : w'.ownsRow B 26 3 v (of.size + 1) xs) (hp : PartsIs w (.cons op la of (wkR of)) xs) (hb : Below w.heap.size w w') :
    WantAt w' v ((op, la, of) :: (wkR of).toL) := by
  obtain ⟨g, cap, rfl⟩ := ownsRow_succ ho
  have hlen : ((op, la, of) :: (wkR of).toL).length = of.size + 1 := by simp [Fms.toL_len, wkR_len]
  rw [WantAt, hlen]
  refine ⟨_, _, rfl, fun i o l f hi => ?_⟩
  have hrow : RowIs w' (.cons op la of (wkR of)) g 0 := hp.row hb (fun j u hu => by
    rw [Nat.zero_add]
    have hj : j < (of.size + 1) * 3 := by
      have h1 := (List.getElem?_eq_some_iff.1 hu).1
      have h2 := hp.length
      simp [Fms.len, wkR_len] at h2
      omega
    rw [ho.cellAt j hj]
    exact hu)
  have hget : (Fms.cons op la of (wkR of)).get i = some (o, l, f) := by rw [← Fms.toL_get]; exact hi
  obtain ⟨s, x0, x1, x2, hx⟩ := hrow.at hget
  obtain ⟨q, c, rfl⟩ := hx.slice
  exact ⟨g, 0, rfl, q, c, x0, x1, x2, hx⟩
end Go.Proofs.YthbkdbnalkeieaaDoor
