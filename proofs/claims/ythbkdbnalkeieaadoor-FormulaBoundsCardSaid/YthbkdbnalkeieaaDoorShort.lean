/- What is left of a text when a formula is read is shorter. -/
import Derived.Test.YthbkdbnalkeieaaDoorAtom2
namespace Go.Proofs.YthbkdbnalkeieaaDoor
open Go.RowKit Go.Sort Go.Shelf

theorem lay_le : ∀ (n : Nat) (s : List UInt8) (op la : Int) (of : Fms) (r : List UInt8), layFrom n s = .ok op la of r → r.length ≤ s.length ∧ of = .nil
  | 0, _, _, _, _, _, h => by simp [layFrom] at h
  | n + 1, s, op, la, of, r, h => by
    unfold layFrom at h
    split at h
    · simp only [PR.ok.injEq] at h
      obtain ⟨_, _, e1, e2⟩ := h
      refine ⟨?_, e1.symm⟩
      rw [← e2]
      unfold Lib.trimPrefix
      split
      · simp
      · simp
    · exact lay_le n s op la of r h

def Md.part : Md → Nat
  | .loop _ _ _ of => of.size + 1
  | _ => 0
def Md.eats : Md → Nat
  | .loop _ _ _ _ => 0
  | _ => 1

/-- What is read is shorter than what was there; and a formula has no more parts than bytes were read. -/
theorem ok_shorter : ∀ (n : Nat) (m : Md) (o : Int) (s : List UInt8) (op la : Int) (of : Fms) (r : List UInt8), prs n m o s = .ok op la of r → r.length + m.eats ≤ s.length ∧ of.size + 1 + r.length ≤ s.length + m.part
  | 0, _, _, _, _, _, _, _, h => by simp [prs] at h
  | n + 1, .atom, o, s, op, la, of, r, h => by
    have hs : ∀ c : UInt8, c ≠ 0 → firstB s = c → s.tail.length + 1 = s.length := by
      intro c hc e
      obtain ⟨t, rfl⟩ := first_cons e hc
      rfl
    unfold prs at h
    split at h
    · have h1 := lay_le _ _ _ _ _ _ h
      have h2 := hs 76 (by decide) (by assumption)
      obtain ⟨h3, rfl⟩ := h1
      simp [Md.eats, Md.part, Fms.size]; omega
    · split at h
      · have h2 := hs 33 (by decide) (by assumption)
        split at h
        · split at h
          · have h1 := ok_shorter n _ _ _ _ _ _ _ (by assumption)
            simp only [PR.ok.injEq] at h
            obtain ⟨_, _, rfl, rfl⟩ := h
            simp [Md.eats, Md.part, Fms.size] at h1 ⊢; omega
          · simp at h
        · simp at h
      · split at h
        · have h2 := hs 40 (by decide) (by assumption)
          split at h
          · split at h
            · have h1 := ok_shorter n _ _ _ _ _ _ _ (by assumption)
              split at h
              · simp only [PR.ok.injEq] at h
                obtain ⟨_, _, rfl, rfl⟩ := h
                simp [Md.eats, Md.part] at h1 ⊢; omega
              · simp at h
            · simp at h
          · simp at h
        · simp at h
  | n + 1, .lev 0, o, s, op, la, of, r, h => by
    have h1 := ok_shorter n .atom o s op la of r (by simpa [prs] using h)
    simpa [Md.eats, Md.part] using h1
  | n + 1, .lev (k + 1), o, s, op, la, of, r, h => by
    unfold prs at h
    split at h
    · have h1 := ok_shorter n (.lev k) o s _ _ _ _ (by assumption)
      have h2 := ok_shorter n _ _ _ _ _ _ _ h
      simp [Md.eats, Md.part] at h1 h2 ⊢; omega
    · simp at h
  | n + 1, .loop k op0 la0 of0, o, s, op, la, of, r, h => by
    unfold prs at h
    split at h
    · simp only [PR.ok.injEq] at h
      obtain ⟨_, _, rfl, rfl⟩ := h
      simp [Md.eats, Md.part]; omega
    · split at h
      · have h1 := ok_shorter n (.lev k) o s.tail _ _ _ _ (by assumption)
        have h2 := ok_shorter n _ _ _ _ _ _ _ h
        have h3 : s.tail.length ≤ s.length := by simp
        have h4 : s.tail.length + 1 = s.length := by
          cases s with
          | nil =>
            exfalso
            have hne : ¬ signOf (2 - k) (firstB []) = 0 := by assumption
            apply hne
            simp [signOf, firstB]
          | cons c t => rfl
        simp [Md.eats, Md.part, Fms.size] at h1 h2 ⊢; omega
      · simp at h
end Go.Proofs.YthbkdbnalkeieaaDoor
