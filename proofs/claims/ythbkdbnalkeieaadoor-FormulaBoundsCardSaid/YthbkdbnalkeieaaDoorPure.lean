/- Formulas as plain Lean data; what the program computes of them. -/
import Derived.Test.YthbkdbnalkeieaaDoorBase
namespace Go.Proofs.YthbkdbnalkeieaaDoor

/-- A row of formulas: each with its Op, its Layer, the row in it. -/
inductive Fms where
  | nil
  | cons (op la : Int) (of r : Fms)

namespace Fms
def len : Fms → Nat
  | nil => 0
  | cons _ _ _ r => r.len + 1
def size : Fms → Nat
  | nil => 0
  | cons _ _ of r => of.size + r.size + 1
def get : Fms → Nat → Option (Int × Int × Fms)
  | nil, _ => none
  | cons op la of _, 0 => some (op, la, of)
  | cons _ _ _ r, i + 1 => r.get i
/-- What is left behind so many. -/
def drop : Fms → Nat → Fms
  | F, 0 => F
  | nil, _ + 1 => nil
  | cons _ _ _ r, i + 1 => r.drop i
/-- Each element of the row, and of what is in it. -/
def All (P : Int → Int → Fms → Prop) : Fms → Prop
  | nil => True
  | cons op la of r => P op la of ∧ r.All P

theorem All.at {P : Int → Int → Fms → Prop} : ∀ {F : Fms}, F.All P → ∀ {i : Nat} {op la : Int} {of : Fms}, F.get i = some (op, la, of) → P op la of
  | nil, _, _, _, _, _, h => by simp [get] at h
  | cons op la of r, h, 0, _, _, _, e => by simp [get] at e; obtain ⟨rfl, rfl, rfl⟩ := e; exact h.1
  | cons op la of r, h, i + 1, _, _, _, e => All.at h.2 e
/-- By one step: whoever has what is in it has it. -/
theorem all_of {P : Int → Int → Fms → Prop} (h : ∀ op la of, of.All P → P op la of) : ∀ F : Fms, F.All P
  | nil => trivial
  | cons op la of r => ⟨h op la of (all_of h of), all_of h r⟩
theorem drop_get : ∀ {F : Fms} {i : Nat}, i < F.len → ∃ op la of, F.get i = some (op, la, of) ∧ F.drop i = cons op la of (F.drop (i + 1))
  | nil, _, h => by simp [len] at h
  | cons op la of r, 0, _ => ⟨op, la, of, rfl, by simp [drop]⟩
  | cons _ _ _ r, i + 1, h => by
    have := drop_get (F := r) (i := i) (by simp [len] at h; exact h)
    simpa [get, drop] using this
theorem drop_len : ∀ (F : Fms), F.drop F.len = nil
  | nil => rfl
  | cons _ _ _ r => by simp [len, drop, drop_len r]
theorem size_get : ∀ {F : Fms} {i : Nat} {op la : Int} {of : Fms}, F.get i = some (op, la, of) → of.size < F.size
  | nil, _, _, _, _, h => by simp [get] at h
  | cons _ _ of r, 0, _, _, _, e => by simp [get] at e; obtain ⟨_, _, rfl⟩ := e; simp [size]; omega
  | cons _ _ of r, i + 1, _, _, _, e => by have := size_get (F := r) e; simp [size]; omega
theorem len_le_size : ∀ F : Fms, F.len ≤ F.size
  | nil => Nat.le_refl _
  | cons _ _ of r => by have := len_le_size r; simp [len, size]; omega
end Fms

/-- How many an Op has. -/
def needs (op : Int) : Int := if op = 1 then 0 else if op = 2 then 1 else if 3 ≤ op ∧ op ≤ 6 then 2 else -1
/-- May a part be? -/
def fine (op la : Int) (n : Nat) : Prop := (n : Int) = needs op ∧ 0 ≤ la ∧ la < 16 ∧ (op = 1 ∨ la = 0)
instance (op la : Int) (n : Nat) : Decidable (fine op la n) := inferInstanceAs (Decidable (_ ∧ _))

/-- The depth and the number of parts, over a row. -/
def foldM : Fms → Int → Int → Option (Int × Int)
  | .nil, d, n => some (d, n)
  | .cons op la of r, d, n => if fine op la of.len then match foldM of 0 1 with
      | some (x, y) => foldM r (max d (x + 1)) (n + y)
      | none => none
    else none
def meas (op la : Int) (of : Fms) : Option (Int × Int) := if fine op la of.len then (foldM of 0 1).map fun p => (p.1 + 1, p.2) else none

theorem foldM_cons (op la : Int) (of r : Fms) (d n : Int) : foldM (.cons op la of r) d n = match meas op la of with
    | some (x, y) => foldM r (max d x) (n + y)
    | none => none := by
  unfold meas
  rw [foldM]
  split
  · cases foldM of 0 1 with
    | none => rfl
    | some p => rfl
  · rfl
theorem foldM_bound : ∀ (F : Fms) (d n x y : Int), foldM F d n = some (x, y) → d ≤ x ∧ x ≤ max d F.size ∧ n ≤ y ∧ y ≤ n + F.size
  | .nil, d, n, x, y, h => by
    simp [foldM] at h
    obtain ⟨rfl, rfl⟩ := h
    simp [Fms.size]
    omega
  | .cons op la of r, d, n, x, y, h => by
    rw [foldM] at h
    split at h
    · cases h1 : foldM of 0 1 with
      | none => rw [h1] at h; cases h
      | some p =>
        rw [h1] at h
        have h2 := foldM_bound of 0 1 p.1 p.2 h1
        have h3 := foldM_bound r _ _ x y h
        simp only [Fms.size]
        omega
    · cases h
/-- What Check answers. -/
def chk (op la : Int) (of : Fms) : Int := match meas op la of with
  | none => 2
  | some (d, n) => if 32 < d then 311 else if 512 < n then 3 else 0
end Go.Proofs.YthbkdbnalkeieaaDoor
