/- The walk of measure. -/
import Derived.Test.YthbkdbnalkeieaaDoorMem
import Derived.Test.YthbkdbnalkeieaaDoorTail
import Derived.Deep.RegionHeld3
namespace Go.Proofs.YthbkdbnalkeieaaDoor
open Go.RowKit Go.Sort

/-- How measure ends. -/
def MeasEnd (m : Option (Int × Int)) (e : Ending) : Prop := match m with
    | some (d, n) => e = .returned (.tuple #[.int .i64 d, .int .i64 n])
    | none => e = gaveUp 2
/-- measure's contract at a formula. -/
def MeasOk (op la : Int) (of : Fms) : Prop :=
  ∀ (s : Value) (w : World), of.size < 1000000000000 → SlIs w s of → Calls Tryd.prog 35 #[.agg #[.int .i64 op, .int .i64 la, s]] w fun e w' => Below w.heap.size w w' ∧ MeasEnd (meas op la of) e

/-- The ways of the test. -/
theorem fine_ways (op la : Int) (n : Nat) :
    (fine op la n ∧ ((n : Int) == needs op) = true ∧ 0 ≤ la ∧ la < 16 ∧ ((op == 1) = true ∨ ((op == 1) = false ∧ (la == 0) = true))) ∨
    (¬ fine op la n ∧ (((n : Int) == needs op) = false ∨ (((n : Int) == needs op) = true ∧ decide (0 ≤ la) = false) ∨ (((n : Int) == needs op) = true ∧ 0 ≤ la ∧ decide (la < 16) = false) ∨
      (((n : Int) == needs op) = true ∧ 0 ≤ la ∧ la < 16 ∧ (op == 1) = false ∧ (la == 0) = false))) := by
  unfold fine
  simp only [beq_iff_eq, beq_eq_false_iff_ne, decide_eq_false_iff_not, ne_eq]
  generalize needs op = k
  by_cases h1 : (n : Int) = k <;> by_cases h2 : 0 ≤ la <;> by_cases h3 : la < 16 <;> by_cases h4 : op = 1 <;> by_cases h5 : la = 0 <;> simp [h1, h2, h3, h4, h5]

set_option maxHeartbeats 4000000 in
set_option maxRecDepth 100000 in
theorem meas_bad (op la : Int) (of : Fms) (p : Option Addr) (cap : Nat) (w : World)
    (h : ((of.len : Int) == needs op) = false ∨ (((of.len : Int) == needs op) = true ∧ decide (0 ≤ la) = false) ∨ (((of.len : Int) == needs op) = true ∧ 0 ≤ la ∧ decide (la < 16) = false) ∨
      (((of.len : Int) == needs op) = true ∧ 0 ≤ la ∧ la < 16 ∧ (op == 1) = false ∧ (la == 0) = false)) :
    Calls Tryd.prog 35 #[.agg #[.int .i64 op, .int .i64 la, .slice p of.len cap]] w fun e w' => Below w.heap.size w w' ∧ e = gaveUp 2 := by
  go_enter Tryd.func35, Tryd.ntmps35
  go_upto_region 1 with fail
  obtain ⟨W, hW⟩ : ∃ W, W = w.alloc (.cells #[.int .i64 op, .int .i64 la, .slice p of.len cap] 26) := ⟨_, rfl⟩
  rw [← hW]
  have hblk : W.heap[w.heap.size]? = some (.cells #[.int .i64 op, .int .i64 la, .slice p of.len cap] 26 (0, 0)) := by rw [hW]; exact block_alloc_new w _
  have c0 : W.cell? ⟨w.heap.size, 0, none⟩ = some (.int .i64 op) := cell_of hblk rfl
  have c1 : W.cell? ⟨w.heap.size, 1, none⟩ = some (.int .i64 la) := cell_of hblk rfl
  have c2 : W.cell? ⟨w.heap.size, 2, none⟩ = some (.slice p of.len cap) := cell_of hblk rfl
  have hB : Below w.heap.size w W := by rw [hW]; exact (Below.refl _ w).alloc (Nat.le_refl _) _
  have HB := Lib.hid hB
  clear hW hblk hB
  refine wp_region_quiet_tail (fun X => ∃ q : Nat, X = W.drewN q) 27 (by kernel_rfl) (by kernel_rfl) ⟨1, rfl⟩ ?_
  simp only [List.take_succ_cons, List.take_zero, List.drop_succ_cons, List.drop_zero]
  rcases h with h1 | ⟨h1, h2⟩ | ⟨h1, h2, h3⟩ | ⟨h1, h2, h3, h4, h5⟩
  all_goals
    repeat (go_big_quiet_step ((go_at_call 52; exact (needs_any op _).mono (fun _ _ h => ⟨h.1, _, h.2.symm⟩))))
    refine wpQuiet_nil ?_
    rintro _ ⟨nq, rfl⟩
    go_wp2_with fail
    refine (must_false 2 _).mono ?_
    rintro e w' ⟨rfl, rfl⟩
    exact ⟨rfl, ⟨HB.out.os, HB.out.tape, HB.out.output, HB.out.size, HB.out.block⟩, rfl⟩
#print axioms meas_bad

set_option maxHeartbeats 4000000 in
set_option maxRecDepth 100000 in
theorem meas_step (op la : Int) (of : Fms) (IH : of.All MeasOk) : MeasOk op la of := by
  intro s w hsz hs
  obtain ⟨p, cap, rfl⟩ := hs.slice
  rcases fine_ways op la of.len with ⟨hf, h1, h2, h3, h4⟩ | ⟨hf, h⟩
  rotate_left
  · have hm : meas op la of = none := by unfold meas; rw [if_neg hf]
    rw [hm]
    exact meas_bad op la of p cap w h
  have hm : meas op la of = (foldM of 0 1).map fun q => (q.1 + 1, q.2) := by unfold meas; rw [if_pos hf]
  rw [hm]
  have HS := Lib.hid hs
  have HIH := Lib.hid IH
  clear hs IH hm hf
  go_enter Tryd.func35, Tryd.ntmps35
  go_upto_region 1 with fail
  obtain ⟨W, hW⟩ : ∃ W, W = w.alloc (.cells #[.int .i64 op, .int .i64 la, .slice p of.len cap] 26) := ⟨_, rfl⟩
  rw [← hW]
  have hblk : W.heap[w.heap.size]? = some (.cells #[.int .i64 op, .int .i64 la, .slice p of.len cap] 26 (0, 0)) := by rw [hW]; exact block_alloc_new w _
  have c0 : W.cell? ⟨w.heap.size, 0, none⟩ = some (.int .i64 op) := cell_of hblk rfl
  have c1 : W.cell? ⟨w.heap.size, 1, none⟩ = some (.int .i64 la) := cell_of hblk rfl
  have c2 : W.cell? ⟨w.heap.size, 2, none⟩ = some (.slice p of.len cap) := cell_of hblk rfl
  have hB : Below w.heap.size w W := by rw [hW]; exact (Below.refl _ w).alloc (Nat.le_refl _) _
  have HB := Lib.hid hB
  clear hW hblk hB
  go_cut [] (fun wx => ∃ q : Nat, wx = W.drewN q)
  case first =>
    refine wp_region_quiet_tail (fun X => ∃ q : Nat, X = W.drewN q) 27 (by kernel_rfl) (by kernel_rfl) ⟨1, rfl⟩ ?_
    simp only [List.take_succ_cons, List.take_zero, List.drop_succ_cons, List.drop_zero]
    rcases h4 with h4 | ⟨h4, h5⟩
    all_goals
      repeat (go_big_quiet_step ((go_at_call 52; exact (needs_any op _).mono (fun _ _ h => ⟨h.1, _, h.2.symm⟩))))
      refine wpQuiet_nil ?_
      rintro _ ⟨nq, rfl⟩
      go_wp2_with fail
      refine (must_true 2 _).mono ?_
      rintro e w' ⟨rfl, rfl⟩
      go_wp2_with fail
      go_meet
      exact ⟨nq, rfl⟩
  case rest =>
    obtain ⟨q, rfl⟩ := hcut
    go_wp2_with fail
    have HBq : Hid (Below w.heap.size w (W.drewN q)) := Lib.hid ⟨HB.out.os, HB.out.tape, HB.out.output, HB.out.size, HB.out.block⟩
    obtain ⟨W1, hW1⟩ : ∃ W1, W1 = W.drewN q := ⟨_, rfl⟩
    rw [← hW1] at HBq ⊢
    clear hW1 HB c0 c1 c2 h1 h2 h3 h4
    have hbd : Hid (∀ d n, foldM of 0 1 = some (d, n) → 0 ≤ d ∧ d ≤ of.size ∧ 1 ≤ n ∧ n ≤ of.size + 1) := Lib.hid fun d n h => by
      have := foldM_bound of 0 1 d n h; omega
    have hlb : of.len ≤ 1000000000000 := by have := Fms.len_le_size of; omega
    go_loopg [2, 3, 39] (of.len + 1) (fun gg s2 s3 s39 wr => ∃ (d n : Int) (i : Nat), s2 = .int .i64 d ∧ s3 = .int .i64 n ∧ s39 = .int .i64 i ∧ i ≤ of.len ∧ of.len + 1 ≤ gg + i ∧ 0 ≤ d ∧ d ≤ 1000000000000 ∧ 0 ≤ n ∧ n ≤ 1000000000001 ∧
      Hid (Below w.heap.size w wr) ∧ Hid (foldM of 0 1 = foldM (of.drop i) d n ∧ n + (of.drop i).size ≤ of.size + 1 ∧ d ≤ of.size))
    case atStart => exact ⟨0, 1, 0, rfl, rfl, rfl, Nat.zero_le _, by omega, by omega, by omega, by omega, by omega, HBq, Lib.hid ⟨by cases of <;> rfl, by cases of <;> simp [Fms.drop] <;> omega, by omega⟩⟩
    case round =>
      obtain ⟨d, n, i, rfl, rfl, rfl, hi, hgk, hd0, hd1, hn0, hn1, HBr, HF⟩ := hrel
      clear HBq
      by_cases hlt : i < of.len
      · obtain ⟨op', la', of', hget, hdrop⟩ := Fms.drop_get hlt
        obtain ⟨b, off, rfl, hrow⟩ := HS.out.at hlt
        have hrw := hrow.later HBr.out
        obtain ⟨s', e0, e1, e2, hs'⟩ := hrw.at hget
        obtain ⟨p', cap', rfl⟩ := hs'.slice
        have hlt' : (i : Int) < (of.len : Int) := by omega
        have HS' := Lib.hid hs'
        have HG := Lib.hid (Fms.All.at HIH.out hget)
        have hsz' := Fms.size_get hget
        have HD := Lib.hid hdrop
        clear hs' hrow hrw hget hdrop
        have hbA : Below wr.heap.size wr (wr.alloc (.cells #[.int .i64 op', .int .i64 la', .slice p' of'.len cap'] 26)) := (Below.refl _ wr).alloc (Nat.le_refl _) _
        have HBA := Lib.hid hbA
        clear hbA
        go_wp2_with fail
        refine (HG.out (.slice p' of'.len cap') _ (by omega) (HS'.out.later HBA.out)).mono ?_
        rintro e w3 ⟨hb3, he⟩
        have hB3 := HBr.out.trans ((HBA.out.trans (hb3.mono HBA.out.size)).mono HBr.out.size)
        have hF := HF.out
        rw [HD.out, foldM_cons] at hF
        have hsz2 : (Fms.cons op' la' of' (of.drop (i + 1))).size = of'.size + (of.drop (i + 1)).size + 1 := rfl
        rw [hsz2] at hF
        cases hmm : meas op' la' of' with
        | none =>
          rw [hmm] at he hF
          subst he
          refine ⟨rfl, hB3, ?_⟩
          rw [hF.1]
          rfl
        | some xy =>
          obtain ⟨x, y⟩ := xy
          rw [hmm] at he hF
          subst he
          have hxy : 0 ≤ x ∧ x ≤ of'.size + 1 ∧ 1 ≤ y ∧ y ≤ of'.size + 1 := by
            unfold meas at hmm
            split at hmm
            · cases hfo : foldM of' 0 1 with
              | none => rw [hfo] at hmm; cases hmm
              | some q =>
                rw [hfo] at hmm
                have := foldM_bound of' 0 1 q.1 q.2 hfo
                simp at hmm
                omega
            · cases hmm
          have HB3 := Lib.hid hB3
          have HF3 := Lib.hid hF
          clear hB3 hF hb3 hmm hsz2
          go_wp2
          go_roundg (of.len - i)
          case measure => omega
          case rel =>
            obtain ⟨f1, f2, f3⟩ := HF3.out
            exact ⟨max d x, n + y, i + 1, rfl, rfl, by simp, by omega, by omega, by omega, by omega, by omega, by omega, HB3, Lib.hid ⟨f1, by omega, by omega⟩⟩
      · obtain rfl : i = of.len := by omega
        go_wp2
        go_ret2
        refine ⟨HBr.out, ?_⟩
        rw [HF.out.1, Fms.drop_len]
        rfl

theorem meas_any (op la : Int) (of : Fms) : MeasOk op la of := meas_step op la of (Fms.all_of meas_step of)
#print axioms meas_any
end Go.Proofs.YthbkdbnalkeieaaDoor
