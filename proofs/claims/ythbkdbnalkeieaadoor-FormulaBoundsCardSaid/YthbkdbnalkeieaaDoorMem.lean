/- Formulas in memory; the walk of needs. -/
import Derived.Test.YthbkdbnalkeieaaDoorPure
import Derived.Lib.Hide
import Derived.BigQuiet
import Derived.Deep.QuietTactic
import Derived.StillTailTactics
import Derived.Deep.LoopGhost
import Derived.Deep.DeepCutAuto
namespace Go.Proofs.YthbkdbnalkeieaaDoor
open Go.RowKit Go.Sort

/-- The row F lies in block b from off on. -/
def RowIs (w : World) : Fms → Nat → Nat → Prop
  | .nil, _, _ => True
  | .cons op la of r, b, off => (∃ s, w.cell? ⟨b, off, none⟩ = some (In op) ∧ w.cell? ⟨b, off + 1, none⟩ = some (In la) ∧ w.cell? ⟨b, off + 2, none⟩ = some s ∧
      ((of = .nil ∧ ∃ p cap, s = .slice p 0 cap) ∨ ∃ b' off' cap, s = .slice (some ⟨b', off', none⟩) of.len cap ∧ RowIs w of b' off')) ∧ RowIs w r b (off + 3)
/-- The slice value s holds the row F. -/
def SlIs (w : World) (s : Value) (F : Fms) : Prop :=
  (F = .nil ∧ ∃ p cap, s = .slice p 0 cap) ∨ ∃ b off cap, s = .slice (some ⟨b, off, none⟩) F.len cap ∧ RowIs w F b off

theorem RowIs.at {w : World} : ∀ {F : Fms} {b off : Nat}, RowIs w F b off → ∀ {i : Nat} {op la : Int} {of : Fms}, F.get i = some (op, la, of) →
    ∃ s, w.cell? ⟨b, off + i * 3, none⟩ = some (In op) ∧ w.cell? ⟨b, off + i * 3 + 1, none⟩ = some (In la) ∧ w.cell? ⟨b, off + i * 3 + 2, none⟩ = some s ∧ SlIs w s of
  | .nil, _, _, _, _, _, _, _, e => by simp [Fms.get] at e
  | .cons op la of r, b, off, h, 0, _, _, _, e => by
    simp [Fms.get] at e
    obtain ⟨rfl, rfl, rfl⟩ := e
    obtain ⟨⟨s, h1, h2, h3, h4⟩, _⟩ := h
    exact ⟨s, by simpa using h1, by simpa using h2, by simpa using h3, h4⟩
  | .cons op la of r, b, off, h, i + 1, _, _, _, e => by
    obtain ⟨s, h1, h2, h3, h4⟩ := RowIs.at (F := r) h.2 (i := i) e
    have e1 : off + (i + 1) * 3 = off + 3 + i * 3 := by omega
    rw [e1]
    exact ⟨s, h1, h2, h3, h4⟩

theorem RowIs.later {w w' : World} (hb : Below w.heap.size w w') : ∀ {F : Fms} {b off : Nat}, RowIs w F b off → RowIs w' F b off
  | .nil, _, _, _ => trivial
  | .cons op la of r, b, off, ⟨⟨s, h1, h2, h3, h4⟩, h5⟩ => by
    have k : ∀ {p : Addr} {v : Value}, w.cell? p = some v → w'.cell? p = some v := fun h => (hb.cell (World.block_lt_of_cell? w _ h)).trans h
    refine ⟨⟨s, k h1, k h2, k h3, ?_⟩, RowIs.later hb h5⟩
    rcases h4 with h | ⟨b', off', cap, e, h⟩
    · exact .inl h
    · exact .inr ⟨b', off', cap, e, RowIs.later hb h⟩
theorem SlIs.later {w w' : World} {s : Value} {F : Fms} (h : SlIs w s F) (hb : Below w.heap.size w w') : SlIs w' s F := by
  rcases h with h | ⟨b', off', cap, e, h⟩
  · exact .inl h
  · exact .inr ⟨b', off', cap, e, h.later hb⟩
theorem SlIs.slice {w : World} {s : Value} {F : Fms} (h : SlIs w s F) : ∃ p cap, s = .slice p F.len cap := by
  rcases h with ⟨rfl, p, cap, e⟩ | ⟨b', off', cap, e, h⟩
  · exact ⟨p, cap, e⟩
  · exact ⟨_, cap, e⟩
theorem SlIs.at {w : World} {p : Option Addr} {n cap : Nat} {F : Fms} (h : SlIs w (.slice p n cap) F) {i : Nat} (hi : i < F.len) : ∃ b off, p = some ⟨b, off, none⟩ ∧ RowIs w F b off := by
  rcases h with ⟨rfl, _⟩ | ⟨b', off', cap, e, h⟩
  · simp [Fms.len] at hi
  · simp only [Value.slice.injEq] at e
    exact ⟨b', off', e.1, h⟩

set_option maxHeartbeats 1000000 in
theorem needs_any (op : Int) (w : World) : Calls Tryd.prog 52 #[.int .i64 op] w fun e w' => e = .returned (.int .i64 (needs op)) ∧ w = w' := by
  unfold needs
  by_cases h1 : op = 1
  · have e1 : (op == 1) = true := by rw [h1]; rfl
    rw [if_pos h1]
    go_enter Tryd.func52, Tryd.ntmps52
    go_wp2
    go_ret
    exact ⟨rfl, rfl⟩
  · have e1 : (op == 1) = false := beq_eq_false_iff_ne.2 h1
    rw [if_neg h1]
    by_cases h2 : op = 2
    · have e2 : (op == 2) = true := by rw [h2]; rfl
      rw [if_pos h2]
      go_enter Tryd.func52, Tryd.ntmps52
      go_wp2
      go_ret
      exact ⟨rfl, rfl⟩
    · have e2 : (op == 2) = false := beq_eq_false_iff_ne.2 h2
      rw [if_neg h2]
      by_cases h3 : 3 ≤ op
      · by_cases h6 : op ≤ 6
        · rw [if_pos ⟨h3, h6⟩]
          go_enter Tryd.func52, Tryd.ntmps52
          go_wp2
          go_ret
          exact ⟨rfl, rfl⟩
        · have e6 : decide (op ≤ 6) = false := decide_eq_false h6
          rw [if_neg (fun h => h6 h.2)]
          go_enter Tryd.func52, Tryd.ntmps52
          go_wp2
          go_ret
          exact ⟨rfl, rfl⟩
      · have e3 : decide (3 ≤ op) = false := decide_eq_false h3
        rw [if_neg (fun h => h3 h.1)]
        go_enter Tryd.func52, Tryd.ntmps52
        go_wp2
        go_ret
        exact ⟨rfl, rfl⟩

theorem must_true (e : Int) (w : World) : Calls Tryd.prog 30 #[.bool true, .int .i64 e] w fun r w' => r = .returned (.tuple #[]) ∧ w = w' := by
  go_enter Tryd.func30, Tryd.ntmps30
  go_wp2
  go_end0
  exact ⟨rfl, rfl⟩
/-- What must gives up with. -/
def gaveUp (e : Int) : Ending := .panicked [{ v := .iface 27 (.int .i64 e), recovered := false }]
theorem must_false (e : Int) (w : World) : Calls Tryd.prog 30 #[.bool false, .int .i64 e] w fun r w' => r = gaveUp e ∧ w = w' := by
  go_enter Tryd.func30, Tryd.ntmps30
  go_wp2
  exact ⟨rfl, rfl, rfl⟩
end Go.Proofs.YthbkdbnalkeieaaDoor
