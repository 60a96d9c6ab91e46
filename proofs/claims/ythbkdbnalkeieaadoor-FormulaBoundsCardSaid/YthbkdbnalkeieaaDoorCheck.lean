/- The walk of Check. -/
import Derived.Test.YthbkdbnalkeieaaDoorMeas
import Derived.Defers
import Derived.Recover
import Derived.Laws.Pointers
import Derived.Shelf.Abstract
namespace Go.Proofs.YthbkdbnalkeieaaDoor
open Go.RowKit Go.Sort Go.Shelf

theorem clear_any (w : World) : Calls Tryd.prog 34 #[] w fun r w' => r = .returned (.tuple #[]) ∧ w = w' := by
  go_enter Tryd.func34, Tryd.ntmps34
  go_wp2
  go_end0
  exact ⟨rfl, rfl⟩

theorem assert27 (v : Value) (W : World) : (Instr.typeAssert (.iface 27 v) 20 27 false).run Tryd.prog W = .ok v W := by kernel_rfl

set_option maxHeartbeats 1000000 in
set_option maxRecDepth 100000 in
theorem caught_panicking (p : Addr) (x e : Int) (g : Nat) (cl : Array Value) (older : List PanicEntry) (w : World) (R : World → Prop) (hc : w.cell? p = some (.int .i64 x)) (hz : w.frozen? p = false)
    (hclr : Calls Tryd.prog g cl (w.setCell p (.int .i64 e)) fun r w' => r = .returned (.tuple #[]) ∧ R w') (eg : ∀ args w, (callFunc g args).run Tryd.prog w = .ok (.enter g args) w) :
    CallsD Tryd.prog 28 #[.pointer (some p), .func (.func g) #[] cl] (.panicking ({ v := .iface 27 (.int .i64 e), recovered := false } :: older)) w fun r u' w' =>
      r = .returned (.tuple #[]) ∧ u' = .panicking ({ v := .iface 27 (.int .i64 e), recovered := true } :: older) ∧ R w' := by
  refine callsD_of_wpS Tryd.func28 rfl fun c₀ cs hu => ?_
  apply wpS_seq
  apply wpS_region
  simp [wpOpsS, go_sem, recoverD, hu, Tryd.ntmps28, Exit.thenS]
  have HCL := Lib.hid hclr
  have HEG := Lib.hid eg
  clear hclr eg
  change Code.wpS Tryd.prog _ _ { tmps := #[.pointer (some p), .func (.func g) #[] cl, undef, undef, .iface 27 (.int .i64 e), .iface 27 (.int .i64 e), undef, undef, undef, undef, undef, undef, undef, undef], defers := [] } _ _
  refine wpS_of_wp ?_
  have has := assert27
  have hen := HEG.out
  go_wp2_with fail
  refine HCL.out.mono ?_
  rintro r w' ⟨rfl, hR⟩
  go_wp2
  refine ⟨rfl, _, rfl, _, results_none rfl _ _ _, rfl, rfl, hR⟩

theorem caught_idle (p : Addr) (cv : Value) (w : World) :
    CallsD Tryd.prog 28 #[.pointer (some p), cv] .returning w fun e u' w' => e = .returned (.tuple #[]) ∧ u' = .returning ∧ w' = w := by
  refine callsD_of_wpS Tryd.func28 rfl fun c₀ cs hu => ?_
  apply wpS_seq
  apply wpS_region
  simp [wpOpsS, go_sem, recoverD, hu, Tryd.ntmps28, Exit.thenS]
  change Code.wpS Tryd.prog _ _ { tmps := #[.pointer (some p), cv, undef, undef, .nilIface, .nilIface, undef, undef, undef, undef, undef, undef, undef, undef], defers := [] } _ _
  refine wpS_of_wp ?_
  go_wp2_with fail
  refine ⟨rfl, .returning, ?_, _, results_none rfl _ _ _, rfl, rfl, rfl⟩
  cases c₀
  simp_all

/-- What Check answers, over whatever formula. -/
theorem check_any (op la : Int) (of : Fms) (s : Value) (w : World) (hsz : of.size < 1000000000000) (hs : SlIs w s of) :
    Calls Tryd.prog 14 #[.agg #[.int .i64 op, .int .i64 la, s]] w fun e w' => e = .returned (.int .i64 (chk op la of)) ∧ Below w.heap.size w w' := by
  obtain ⟨p, cap, rfl⟩ := hs.slice
  have hM := meas_any op la of (.slice p of.len cap) _ hsz (hs.later (((Below.refl _ w).alloc (Nat.le_refl _) (.cells #[.int .i64 op, .int .i64 la, .slice p of.len cap] 26)).alloc (by simp) (.cells #[.int .i64 0] 27)))
  have HM := Lib.hid hM
  clear hM hs
  go_enter_defers Tryd.func14, Tryd.ntmps14
  go_wp2_with fail
  refine HM.out.mono ?_
  rintro e w1 ⟨hb1, he⟩
  have hB2 : Below w.heap.size w w1 := (((Below.refl _ w).alloc (Nat.le_refl _) _).alloc (by simp) _).trans (hb1.mono (by simp; omega))
  have hbk : w1.heap[w.heap.size + 1]? = some (.cells #[.int .i64 0] 27 (0, 0)) := by
    rw [hb1.block _ (by simp)]
    have := block_alloc_new (w.alloc (.cells #[.int .i64 op, .int .i64 la, .slice p of.len cap] 26)) (.cells #[.int .i64 0] 27)
    rw [World.size_alloc] at this
    exact this
  have c0 : w1.cell? ⟨w.heap.size + 1, 0, none⟩ = some (.int .i64 0) := cell_of hbk rfl
  have f0 : w1.frozen? ⟨w.heap.size + 1, 0, none⟩ = false := free_of hbk
  have hend : ∀ v : Value, Below w.heap.size w (w1.setCell ⟨w.heap.size + 1, 0, none⟩ v) := fun v => hB2.setCell (p := ⟨w.heap.size + 1, 0, none⟩) (by simp) v
  have hval : ∀ v : Value, (w1.setCell ⟨w.heap.size + 1, 0, none⟩ v).cell? ⟨w.heap.size + 1, 0, none⟩ = some v := fun v => cell_of (block_setCell v hbk) rfl
  have hfr : ∀ v : Value, (w1.setCell ⟨w.heap.size + 1, 0, none⟩ v).frozen? ⟨w.heap.size + 1, 0, none⟩ = false := fun v => free_of (block_setCell v hbk)
  have HE := Lib.hid hend
  have HV := Lib.hid hval
  have HFR := Lib.hid hfr
  clear hb1 hB2 hend hval hfr hbk
  cases hm : meas op la of with
  | none =>
    rw [hm] at he
    subst he
    refine leaves_cons (f := 28) (args := #[.pointer (some ⟨w.heap.size + 1, 0, none⟩), .func (.func 34) #[] #[]]) (by simp) (by simp [go_sem]) ?_
    refine (caught_panicking ⟨w.heap.size + 1, 0, none⟩ 0 2 34 #[] [] _ (fun W => W = w1.setCell ⟨w.heap.size + 1, 0, none⟩ (.int .i64 2)) c0 f0 ((clear_any _).mono (fun _ _ h => ⟨h.1, h.2.symm⟩)) (enters_of Tryd.func34 (by kernel_rfl) rfl)).mono ?_
    rintro e u' w'' ⟨rfl, rfl, rfl⟩
    have hv := HV.out (.int .i64 2)
    have hck : chk op la of = 2 := by unfold chk; rw [hm]
    have hb := HE.out (.int .i64 2)
    rw [← hck] at hv hb ⊢
    simp [Leaves, settle, results, Tryd.results14, go_sem, hv, hb]
  | some dn =>
    obtain ⟨d, n⟩ := dn
    rw [hm] at he
    subst he
    by_cases hd : d ≤ 32
    · go_wp2_with fail
      refine (must_true 311 _).mono ?_
      rintro e w2 ⟨rfl, rfl⟩
      by_cases hn : n ≤ 512
      · have hck : chk op la of = 0 := by unfold chk; rw [hm]; simp; omega
        go_wp2_with fail
        refine (must_true 3 _).mono ?_
        rintro e w2 ⟨rfl, rfl⟩
        go_wp2
        refine leaves_cons (f := 28) (args := #[.pointer (some ⟨w.heap.size + 1, 0, none⟩), .func (.func 34) #[] #[]]) (by simp) (by simp [go_sem]) ?_
        refine (caught_idle _ _ _).mono ?_
        rintro e u' w'' ⟨rfl, rfl, rfl⟩
        have hv := HV.out (.int .i64 0)
        have hb := HE.out (.int .i64 0)
        rw [← hck] at hv hb ⊢
        simp [Leaves, settle, results, Tryd.results14, go_sem, hv, hb]
      · have hn' : decide (n ≤ 512) = false := decide_eq_false hn
        have hck : chk op la of = 3 := by unfold chk; rw [hm]; simp; omega
        go_wp2_with fail
        refine (must_false 3 _).mono ?_
        rintro e w2 ⟨rfl, rfl⟩
        refine leaves_cons (f := 28) (args := #[.pointer (some ⟨w.heap.size + 1, 0, none⟩), .func (.func 34) #[] #[]]) (by simp) (by simp [go_sem]) ?_
        refine (caught_panicking ⟨w.heap.size + 1, 0, none⟩ 0 3 34 #[] [] _ (fun W => W = w1.setCell ⟨w.heap.size + 1, 0, none⟩ (.int .i64 3)) c0 f0 ((clear_any _).mono (fun _ _ h => ⟨h.1, h.2.symm⟩)) (enters_of Tryd.func34 (by kernel_rfl) rfl)).mono ?_
        rintro e u' w'' ⟨rfl, rfl, rfl⟩
        have hv := HV.out (.int .i64 3)
        have hb := HE.out (.int .i64 3)
        rw [← hck] at hv hb ⊢
        simp [Leaves, settle, results, Tryd.results14, go_sem, hv, hb]
    · have hd' : decide (d ≤ 32) = false := decide_eq_false hd
      have hck : chk op la of = 311 := by unfold chk; rw [hm]; simp; omega
      go_wp2_with fail
      refine (must_false 311 _).mono ?_
      rintro e w2 ⟨rfl, rfl⟩
      refine leaves_cons (f := 28) (args := #[.pointer (some ⟨w.heap.size + 1, 0, none⟩), .func (.func 34) #[] #[]]) (by simp) (by simp [go_sem]) ?_
      refine (caught_panicking ⟨w.heap.size + 1, 0, none⟩ 0 311 34 #[] [] _ (fun W => W = w1.setCell ⟨w.heap.size + 1, 0, none⟩ (.int .i64 311)) c0 f0 ((clear_any _).mono (fun _ _ h => ⟨h.1, h.2.symm⟩)) (enters_of Tryd.func34 (by kernel_rfl) rfl)).mono ?_
      rintro e u' w'' ⟨rfl, rfl, rfl⟩
      have hv := HV.out (.int .i64 311)
      have hb := HE.out (.int .i64 311)
      rw [← hck] at hv hb ⊢
      simp [Leaves, settle, results, Tryd.results14, go_sem, hv, hb]
#print axioms check_any
end Go.Proofs.YthbkdbnalkeieaaDoor
