/- level and atom at every fuel. -/
import Derived.Test.YthbkdbnalkeieaaDoorLev
namespace Go.Proofs.YthbkdbnalkeieaaDoor
open Go.RowKit Go.Sort Go.Shelf

theorem both_ok (n : Nat) : ∀ m, m ≤ n → AtomOk m ∧ ∀ k, k ≤ 3 → LevOk m k := by
  induction n with
  | zero =>
    intro m hm
    obtain rfl : m = 0 := by omega
    exact ⟨fun rb s o w _ _ _ h => by omega, fun k _ rb lb s o w _ _ _ _ h => by omega⟩
  | succ n ih =>
    intro m hm
    by_cases h : m ≤ n
    · exact ih m h
    · obtain rfl : m = n + 1 := by omega
      refine ⟨atom_step n (ih n (Nat.le_refl _)).1 ((ih n (Nat.le_refl _)).2 3 (Nat.le_refl _)), fun k hk => ?_⟩
      cases k with
      | zero => exact lev_zero n (ih n (Nat.le_refl _)).1
      | succ j => exact lev_step n j (2 - j) (by omega) (fun m hm => (ih m hm).2 j (by omega))
theorem lev_ok (n k : Nat) (hk : k ≤ 3) : LevOk n k := (both_ok n n (Nat.le_refl _)).2 k hk
#print axioms lev_ok
end Go.Proofs.YthbkdbnalkeieaaDoor
