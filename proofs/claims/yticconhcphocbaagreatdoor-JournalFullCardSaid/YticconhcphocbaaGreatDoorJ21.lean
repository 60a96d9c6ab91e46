/- The law on what a journal keeps: plain parts. -/
import Derived.Test.YticconhcphocbaaGreatDoorJ20
namespace Go.Proofs.YticconhcphocbaaGreatDoor
open Go.RowKit Go.Sort Go.Shelf

/-- All groups. -/
def allG (g : Nat) : List (List (Bool × Int)) := (List.range g).map fun i : Nat => [(true, (i : Int) + 1)]
/-- The groups that are kept. -/
def grps (g : Nat) : List (List (Bool × Int)) := (allG g).drop (g - 64)
theorem allG_length (g : Nat) : (allG g).length = g := by simp [allG]
theorem grps_length (g : Nat) : (grps g).length = min g 64 := by simp [grps, allG_length]; omega
theorem allG_succ (g : Nat) : allG (g + 1) = allG g ++ [[(true, (g : Int) + 1)]] := by simp [allG, List.range_succ]
theorem grps_succ (g : Nat) : (grps g ++ [[(true, (g : Int) + 1)]]).drop ((grps g).length + 1 - 64) = grps (g + 1) := by
  rw [grps_length]
  unfold grps
  rw [allG_succ]
  have h1 : (allG g).drop (g - 64) ++ [[(true, (g : Int) + 1)]] = (allG g ++ [[(true, (g : Int) + 1)]]).drop (g - 64) := by
    rw [List.drop_append_of_le_length (by rw [allG_length]; omega)]
  rw [h1, List.drop_drop]
  congr 1
  omega
theorem grps_flat (g : Nat) : (grps g).flatten = ((List.range g).map fun i : Nat => (true, (i : Int) + 1)).drop (g - 64) := by
  unfold grps allG
  rw [← List.map_drop, ← List.map_drop]
  generalize (List.range g).drop (g - 64) = l
  induction l with
  | nil => rfl
  | cons x l ih => rw [List.map_cons, List.flatten_cons, ih]; rfl
theorem grps_at (g : Nat) (x : Bool × Int) (pre : List (Bool × Int)) (h : pre ++ [x] <+: (grps g).flatten) : x.2 = ((g - 64 : Nat) : Int) + (pre.length : Int) + 1 := by
  obtain ⟨r, hr⟩ := h
  have h1 : (grps g).flatten[pre.length]? = some x := by rw [← hr]; simp
  rw [grps_flat, List.getElem?_drop, List.getElem?_map] at h1
  cases h2 : (List.range g)[g - 64 + pre.length]? with
  | none => rw [h2] at h1; simp at h1
  | some y =>
    rw [h2] at h1
    simp at h1
    have h3 := List.getElem?_eq_some_iff.1 h2
    simp at h3
    rw [← h1]
    simp
    omega
theorem grps_flat_length (g : Nat) : (grps g).flatten.length = min g 64 := by rw [grps_flat]; simp; omega
end Go.Proofs.YticconhcphocbaaGreatDoor
