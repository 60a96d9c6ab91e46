/- The law on what a journal keeps, for every input. -/
import Derived.Test.YticconhcphocbaaGreatDoorJ23
namespace Go.Proofs.YticconhcphocbaaGreatDoor
open Go.RowKit Go.Sort Go.Shelf

theorem full_end (w V wz : World) (b0 : Nat) (hb0 : b0 = w.heap.size) (hV : V = w.alloc (.cells #[.bool false] 4)) (hbz : Below V.heap.size V wz) :
    wz.heap[b0]? = some (.cells #[.bool false] 4 (0, 0)) ∧ Below w.heap.size w wz := by
  have hvb : V.heap[b0]? = some (.cells #[.bool false] 4 (0, 0)) := by rw [hV, hb0]; exact block_alloc_new w _
  have hbV : Below w.heap.size w V := by rw [hV]; exact (Below.refl _ w).alloc (Nat.le_refl _) _
  exact ⟨(hbz.block b0 (lt_of_block hvb)).trans hvb, hbV.trans (hbz.mono hbV.size)⟩

set_option maxHeartbeats 1000000 in
set_option maxRecDepth 100000 in
theorem full_out (g st : Int) (w : World) (h : g < 60 ∨ 70 < g ∨ st < 120 ∨ 135 < st) :
    CallsIn Fence.wide 8 Tryz.prog 3 #[.int .i64 g, .int .i64 st] w fun e w' => e = .returned (.bool true) ∧ Below w.heap.size w w' := by
  have main : ∀ (hc : (g < 60) ∨ (¬ g < 60 ∧ 70 < g) ∨ (¬ g < 60 ∧ ¬ 70 < g ∧ st < 120) ∨ (¬ g < 60 ∧ ¬ 70 < g ∧ ¬ st < 120 ∧ 135 < st)), CallsIn Fence.wide 8 Tryz.prog 3 #[.int .i64 g, .int .i64 st] w fun e w' => e = .returned (.bool true) ∧ Below w.heap.size w w' := by
    intro hc
    obtain ⟨b0, hb0⟩ : ∃ b0, b0 = w.heap.size := ⟨_, rfl⟩
    obtain ⟨V, hV⟩ : ∃ V, V = w.alloc (.cells #[.bool false] 4) := ⟨_, rfl⟩
    have HEND := Lib.hid (fun wz hbz => full_end w V wz b0 hb0 hV hbz)
    have HW := Lib.hid (works_any V)
    have HB0 := Lib.hid hb0
    refine callsIn_of_wp_marks Tryz.func3 rfl trivial ?_ rfl
    simp only [Tryz.ntmps3, List.size_toArray, List.length_cons, List.length_nil, Nat.reduceAdd, Nat.reduceSub, Array.replicate_succ, Array.replicate_zero, List.push_toArray, List.append_toArray, List.nil_append, List.cons_append]
    refine wpIn_wide.2 ?_
    go_upto_region 1 with fail
    rw [← hV, ← hb0]
    clear hV hb0
    rcases hc with h1 | ⟨h1, h2⟩ | ⟨h1, h2, h3⟩ | ⟨h1, h2, h3, h4⟩
    all_goals
      go_wp2_with fail
      refine HW.out.mono ?_
      rintro e wz ⟨rfl, hbz⟩
      obtain ⟨hr, hb⟩ := HEND.out wz hbz
      have e1 := free_of (o := 0) hr
      have e2 := cell_of (o := 0) (v := .bool false) hr rfl
      have HR := Lib.hid hr
      have HB := Lib.hid hb
      clear hr hb hbz
      go_wp2
      have hv := cell_of (o := 0) (v := .bool true) (block_setCell (b := b0) (o := 0) (.bool true) HR.out) rfl
      exact ⟨.bool true, by simp [results, Tryz.f3, go_sem, hv], rfl, HB.out.setCell (p := ⟨b0, 0, none⟩) (by show w.heap.size ≤ b0; rw [HB0.out]; omega) _⟩
  exact main (by omega)

theorem full_any (g st : Int) (w : World) : Calls Tryz.prog 3 #[.int .i64 g, .int .i64 st] w fun e w' => e = .returned (.bool true) ∧ Below w.heap.size w w' := by
  by_cases h : g < 60 ∨ 70 < g ∨ st < 120 ∨ 135 < st
  · exact callsIn_wide.1 (full_out g st w h)
  · obtain ⟨a, rfl⟩ : ∃ a : Nat, g = a := ⟨g.toNat, by omega⟩
    obtain ⟨b, rfl⟩ : ∃ b : Nat, st = b := ⟨st.toNat, by omega⟩
    exact callsIn_wide.1 (full_in a b w (by omega) (by omega) (by omega) (by omega))
#print axioms full_any
end Go.Proofs.YticconhcphocbaaGreatDoor
