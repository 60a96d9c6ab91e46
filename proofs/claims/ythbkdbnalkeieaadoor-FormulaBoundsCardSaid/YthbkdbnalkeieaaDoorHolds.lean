/- The walks of Text, says, holds, Holds, Wide. -/
import Derived.Test.YthbkdbnalkeieaaDoorText
namespace Go.Proofs.YthbkdbnalkeieaaDoor
open Go.RowKit Go.Sort Go.Shelf

theorem chk_zero {op la : Int} {of : Fms} (h : chk op la of = 0) : meas op la of ≠ none := by
  intro e
  unfold chk at h
  rw [e] at h
  cases h

set_option maxHeartbeats 1000000 in
set_option maxRecDepth 100000 in
theorem Text_any (op la : Int) (of : Fms) (s : Value) (w : World) (hsz : of.size < 1000000000000) (hs : SlIs w s of) :
    Calls Tryd.prog 21 #[.agg #[.int .i64 op, .int .i64 la, s]] w fun e w' => e = .returned (.tuple #[if chk op la of = 0 then str (txt op la of) else str [], .int .i64 (chk op la of)]) ∧ Below w.heap.size w w' := by
  obtain ⟨p, cap, rfl⟩ := hs.slice
  have hB : Below w.heap.size w (w.alloc (.cells #[.int .i64 op, .int .i64 la, .slice p of.len cap] 26)) := (Below.refl _ w).alloc (Nat.le_refl _) _
  have HB := Lib.hid hB
  have HS := Lib.hid hs
  have hblk := block_alloc_new w (.cells #[.int .i64 op, .int .i64 la, .slice p of.len cap] 26)
  have HK := Lib.hid hblk
  clear hB hs hblk
  go_enter Tryd.func21, Tryd.ntmps21
  go_wp2_with fail
  refine (check_any op la of _ _ hsz (HS.out.later HB.out)).mono ?_
  rintro e w1 ⟨rfl, hb1⟩
  have hblk1 := (hb1.block _ (lt_of_block HK.out)).trans HK.out
  have c0 : w1.cell? ⟨w.heap.size, 0, none⟩ = some (.int .i64 op) := cell_of hblk1 rfl
  have c1 : w1.cell? ⟨w.heap.size, 1, none⟩ = some (.int .i64 la) := cell_of hblk1 rfl
  have c2 : w1.cell? ⟨w.heap.size, 2, none⟩ = some (.slice p of.len cap) := cell_of hblk1 rfl
  have HB1 := Lib.hid (HB.out.trans (hb1.mono HB.out.size))
  clear hb1 hblk1
  by_cases h0 : chk op la of = 0
  · have h0' : (chk op la of == 0) = true := by rw [h0]; rfl
    have h0'' : (chk op la of != 0) = false := by rw [h0]; rfl
    go_wp2_with fail
    refine (text_any op la of _ _ (chk_zero h0) hsz (HS.out.later HB1.out)).mono ?_
    rintro e w2 ⟨rfl, hb2⟩
    go_wp2
    go_ret2
    exact ⟨rfl, HB1.out.trans (hb2.mono HB1.out.size)⟩
  · have h0' : (chk op la of == 0) = false := beq_eq_false_iff_ne.2 h0
    have h0'' : (chk op la of != 0) = true := by rw [bne_iff_ne]; exact h0
    go_wp2
    go_ret2
    exact ⟨rfl, HB1.out⟩
#print axioms Text_any

theorem stored_at {X : World} {b k : Nat} {cs : Array Value} {t : TypeId} (h : X.heap[b]? = some (.cells cs t (0, 0))) (hk : k < cs.size) (v : Value) :
    stored Tryd.prog X ⟨b, k, none⟩ v .plain = .ok () (X.setCell ⟨b, k, none⟩ v) := by
  have hc : X.cell? ⟨b, k, none⟩ = some cs[k] := cell_of h (by simp [hk])
  have hf : X.frozen? ⟨b, k, none⟩ = false := free_of h
  unfold stored
  rw [hc]
  simp [hf]
theorem store_nil {X : World} {b k : Nat} {cs : Array Value} {t : TypeId} (h : X.heap[b]? = some (.cells cs t (0, 0))) (hk : k < cs.size) :
    (store ⟨b, k, none⟩ .nilFunc).run Tryd.prog X = .ok () (X.setCell ⟨b, k, none⟩ .nilFunc) := (run_store Tryd.prog X _ _ .plain rfl).trans (stored_at h hk _)
theorem store_fn {X : World} {b k : Nat} {cs : Array Value} {t : TypeId} (h : X.heap[b]? = some (.cells cs t (0, 0))) (hk : k < cs.size) (f : Fn) :
    (store ⟨b, k, none⟩ (.func f #[] #[])).run Tryd.prog X = .ok () (X.setCell ⟨b, k, none⟩ (.func f #[] #[])) := (run_store Tryd.prog X _ _ .plain rfl).trans (stored_at h hk _)

abbrev saysAll : Array Value := #[.nilFunc, .nilFunc, .func (.func 63) #[] #[], .func (.func 64) #[] #[], .func (.func 65) #[] #[], .func (.func 66) #[] #[], .func (.func 67) #[] #[]]

set_option maxHeartbeats 1000000 in
theorem says_any (w : World) : Calls Tryd.prog 53 #[] w fun e w' => e = .returned (.agg saysAll) ∧ Below w.heap.size w w' := by
  obtain ⟨W0, hW0⟩ : ∃ W0, W0 = w.alloc (.cells #[.nilFunc, .nilFunc, .nilFunc, .nilFunc, .nilFunc, .nilFunc, .nilFunc] 94) := ⟨_, rfl⟩
  have h0 : W0.heap[w.heap.size]? = some (.cells #[.nilFunc, .nilFunc, .nilFunc, .nilFunc, .nilFunc, .nilFunc, .nilFunc] 94 (0, 0)) := by rw [hW0]; exact block_alloc_new w _
  have hB0 : Below w.heap.size w W0 := by rw [hW0]; exact (Below.refl _ w).alloc (Nat.le_refl _) _
  have e0 := store_nil h0 (k := 0) (by decide)
  have h1 := block_setCell (o := 0) .nilFunc h0
  have e1 := store_nil h1 (k := 1) (by decide)
  have h2 := block_setCell (o := 1) .nilFunc h1
  have e2 := store_fn h2 (k := 2) (by decide) (.func 63)
  have h3 := block_setCell (o := 2) (.func (.func 63) #[] #[]) h2
  have e3 := store_fn h3 (k := 3) (by decide) (.func 64)
  have h4 := block_setCell (o := 3) (.func (.func 64) #[] #[]) h3
  have e4 := store_fn h4 (k := 4) (by decide) (.func 65)
  have h5 := block_setCell (o := 4) (.func (.func 65) #[] #[]) h4
  have e5 := store_fn h5 (k := 5) (by decide) (.func 66)
  have h6 := block_setCell (o := 5) (.func (.func 66) #[] #[]) h5
  have e6 := store_fn h6 (k := 6) (by decide) (.func 67)
  have h7 := block_setCell (o := 6) (.func (.func 67) #[] #[]) h6
  have c0 := cell_of (o := 0) (v := .nilFunc) h7 rfl
  have c1 := cell_of (o := 1) (v := .nilFunc) h7 rfl
  have c2 := cell_of (o := 2) (v := (.func (.func 63) #[] #[])) h7 rfl
  have c3 := cell_of (o := 3) (v := (.func (.func 64) #[] #[])) h7 rfl
  have c4 := cell_of (o := 4) (v := (.func (.func 65) #[] #[])) h7 rfl
  have c5 := cell_of (o := 5) (v := (.func (.func 66) #[] #[])) h7 rfl
  have c6 := cell_of (o := 6) (v := (.func (.func 67) #[] #[])) h7 rfl
  have hB := ((((((hB0.setCell (p := ⟨w.heap.size, 0, none⟩) (Nat.le_refl _) .nilFunc).setCell (p := ⟨w.heap.size, 1, none⟩) (Nat.le_refl _) .nilFunc).setCell (p := ⟨w.heap.size, 2, none⟩) (Nat.le_refl _) (.func (.func 63) #[] #[])).setCell (p := ⟨w.heap.size, 3, none⟩) (Nat.le_refl _) (.func (.func 64) #[] #[])).setCell (p := ⟨w.heap.size, 4, none⟩) (Nat.le_refl _) (.func (.func 65) #[] #[])).setCell (p := ⟨w.heap.size, 5, none⟩) (Nat.le_refl _) (.func (.func 66) #[] #[])).setCell (p := ⟨w.heap.size, 6, none⟩) (Nat.le_refl _) (.func (.func 67) #[] #[])
  have HB := Lib.hid hB
  clear h0 h1 h2 h3 h4 h5 h6 h7 hB hB0
  go_enter Tryd.func53, Tryd.ntmps53
  go_upto_region 1 with fail
  rw [← hW0]
  clear hW0
  go_wp2
  refine ⟨rfl, _, ?_, rfl, HB.out⟩
  simp [results, Tryd.f53, go_sem, c0, c1, c2, c3, c4, c5, c6, saysAll]
end Go.Proofs.YthbkdbnalkeieaaDoor
