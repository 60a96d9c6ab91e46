/- Steps of a journal in memory: nodes, rings, steps, groups. -/
import Derived.Test.YticconhcphocbaaGreatDoorRow
namespace Go.Proofs.YticconhcphocbaaGreatDoor
open Go.RowKit Go.Sort

/-- A step. -/
structure St where
  put : Bool
  id : Int
  layer : Int
  sg : Bool
  ax : Int
  ay : Int
  bx : Int
  by_ : Int
  rings : List (List (Int × Int))

abbrev Ii (n : Int) : Value := .int .i64 n
def nodeCells (l : List (Int × Int)) : List Value := l.flatMap fun p => [Ii p.1, Ii p.2]
theorem nodeCells_length (l : List (Int × Int)) : (nodeCells l).length = l.length * 2 := by
  induction l with
  | nil => rfl
  | cons p l ih => simp only [nodeCells, List.flatMap_cons, List.length_append, List.length_cons, List.length_nil] at ih ⊢; omega
def NodesZ (Z : Nat → Prop) (w : World) (s : Value) (l : List (Int × Int)) : Prop := Rw Z w 2 s l.length (nodeCells l)
def RingsZ (Z : Nat → Prop) (w : World) (s : Value) (r : List (List (Int × Int))) : Prop :=
  ∃ xs, Rw Z w 1 s r.length xs ∧ ∀ (i : Nat) l, r[i]? = some l → ∃ v, xs[i]? = some v ∧ NodesZ Z w v l
def StepC (Z : Nat → Prop) (w : World) (xs : List Value) (o : Nat) (x : St) : Prop :=
  ∃ v, xs[o]? = some (.bool x.put) ∧ xs[o + 1]? = some (Ii x.id) ∧ xs[o + 2]? = some (Ii x.layer) ∧ xs[o + 3]? = some (.bool x.sg) ∧ xs[o + 4]? = some (Ii x.ax) ∧ xs[o + 5]? = some (Ii x.ay) ∧ xs[o + 6]? = some (Ii x.bx) ∧ xs[o + 7]? = some (Ii x.by_) ∧ xs[o + 8]? = some v ∧ RingsZ Z w v x.rings
def StepsZ (Z : Nat → Prop) (w : World) (s : Value) (L : List St) : Prop :=
  ∃ xs, Rw Z w 9 s L.length xs ∧ ∀ (i : Nat) x, L[i]? = some x → StepC Z w xs (i * 9) x
def GroupsZ (Z : Nat → Prop) (w : World) (s : Value) (G : List (List St)) : Prop :=
  ∃ xs, Rw Z w 1 s G.length xs ∧ ∀ (i : Nat) L, G[i]? = some L → ∃ v, xs[i]? = some v ∧ StepsZ Z w v L

variable {Z Z' S : Nat → Prop} {w w' : World} {s : Value}
theorem NodesZ.keep {l : List (Int × Int)} (h : NodesZ Z w s l) (hC : Chg S w w') (hS : ∀ k, Z k → ¬ S k) : NodesZ Z w' s l := Rw.keep h hC hS
theorem NodesZ.mono {l : List (Int × Int)} (h : NodesZ Z w s l) (hz : ∀ k, Z k → Z' k) : NodesZ Z' w s l := Rw.mono h hz
theorem RingsZ.keep {r : List (List (Int × Int))} (h : RingsZ Z w s r) (hC : Chg S w w') (hS : ∀ k, Z k → ¬ S k) : RingsZ Z w' s r := by
  obtain ⟨xs, h1, h2⟩ := h
  exact ⟨xs, h1.keep hC hS, fun i l hl => by obtain ⟨v, e, k⟩ := h2 i l hl; exact ⟨v, e, k.keep hC hS⟩⟩
theorem RingsZ.mono {r : List (List (Int × Int))} (h : RingsZ Z w s r) (hz : ∀ k, Z k → Z' k) : RingsZ Z' w s r := by
  obtain ⟨xs, h1, h2⟩ := h
  exact ⟨xs, h1.mono hz, fun i l hl => by obtain ⟨v, e, k⟩ := h2 i l hl; exact ⟨v, e, k.mono hz⟩⟩
theorem StepC.keep {xs : List Value} {o : Nat} {x : St} (h : StepC Z w xs o x) (hC : Chg S w w') (hS : ∀ k, Z k → ¬ S k) : StepC Z w' xs o x := by
  obtain ⟨v, a, b, c, d, e, f, g, i, j, k⟩ := h
  exact ⟨v, a, b, c, d, e, f, g, i, j, k.keep hC hS⟩
theorem StepC.mono {xs : List Value} {o : Nat} {x : St} (h : StepC Z w xs o x) (hz : ∀ k, Z k → Z' k) : StepC Z' w xs o x := by
  obtain ⟨v, a, b, c, d, e, f, g, i, j, k⟩ := h
  exact ⟨v, a, b, c, d, e, f, g, i, j, k.mono hz⟩
theorem StepsZ.keep {L : List St} (h : StepsZ Z w s L) (hC : Chg S w w') (hS : ∀ k, Z k → ¬ S k) : StepsZ Z w' s L := by
  obtain ⟨xs, h1, h2⟩ := h
  exact ⟨xs, h1.keep hC hS, fun i l hl => (h2 i l hl).keep hC hS⟩
theorem StepsZ.mono {L : List St} (h : StepsZ Z w s L) (hz : ∀ k, Z k → Z' k) : StepsZ Z' w s L := by
  obtain ⟨xs, h1, h2⟩ := h
  exact ⟨xs, h1.mono hz, fun i l hl => (h2 i l hl).mono hz⟩
theorem GroupsZ.keep {G : List (List St)} (h : GroupsZ Z w s G) (hC : Chg S w w') (hS : ∀ k, Z k → ¬ S k) : GroupsZ Z w' s G := by
  obtain ⟨xs, h1, h2⟩ := h
  exact ⟨xs, h1.keep hC hS, fun i l hl => by obtain ⟨v, e, k⟩ := h2 i l hl; exact ⟨v, e, k.keep hC hS⟩⟩
theorem GroupsZ.mono {G : List (List St)} (h : GroupsZ Z w s G) (hz : ∀ k, Z k → Z' k) : GroupsZ Z' w s G := by
  obtain ⟨xs, h1, h2⟩ := h
  exact ⟨xs, h1.mono hz, fun i l hl => by obtain ⟨v, e, k⟩ := h2 i l hl; exact ⟨v, e, k.mono hz⟩⟩
theorem NodesZ.later {l : List (Int × Int)} (h : NodesZ Z w s l) (hb : Below w.heap.size w w') : NodesZ Z w' s l := h.keep (Chg.of_below (S := fun _ => False) hb) (fun _ _ h => h)
theorem RingsZ.later {r : List (List (Int × Int))} (h : RingsZ Z w s r) (hb : Below w.heap.size w w') : RingsZ Z w' s r := h.keep (Chg.of_below (S := fun _ => False) hb) (fun _ _ h => h)
theorem StepsZ.later {L : List St} (h : StepsZ Z w s L) (hb : Below w.heap.size w w') : StepsZ Z w' s L := h.keep (Chg.of_below (S := fun _ => False) hb) (fun _ _ h => h)
theorem GroupsZ.later {G : List (List St)} (h : GroupsZ Z w s G) (hb : Below w.heap.size w w') : GroupsZ Z w' s G := h.keep (Chg.of_below (S := fun _ => False) hb) (fun _ _ h => h)
theorem NodesZ.slice {l : List (Int × Int)} (h : NodesZ Z w s l) : ∃ p c, s = .slice p l.length c := Rw.slice h
theorem RingsZ.slice {r : List (List (Int × Int))} (h : RingsZ Z w s r) : ∃ p c, s = .slice p r.length c := by obtain ⟨xs, h1, _⟩ := h; exact h1.slice
theorem StepsZ.slice {L : List St} (h : StepsZ Z w s L) : ∃ p c, s = .slice p L.length c := by obtain ⟨xs, h1, _⟩ := h; exact h1.slice
theorem GroupsZ.slice {G : List (List St)} (h : GroupsZ Z w s G) : ∃ p c, s = .slice p G.length c := by obtain ⟨xs, h1, _⟩ := h; exact h1.slice
end Go.Proofs.YticconhcphocbaaGreatDoor
