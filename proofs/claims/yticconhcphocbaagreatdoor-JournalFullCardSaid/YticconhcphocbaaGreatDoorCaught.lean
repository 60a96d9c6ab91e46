/- Giving up, and what catches it, package by package. -/
import Derived.Test.YticconhcphocbaaGreatDoorExt
import Derived.Defers
import Derived.Recover
import Derived.Laws.Pointers
import Derived.Shelf.Abstract
namespace Go.Proofs.YticconhcphocbaaGreatDoor
open Go.RowKit Go.Sort Go.Shelf

def gaveUp (e : Int) : Ending := .panicked [{ v := .iface 25 (.int .i64 e), recovered := false }]
theorem assertE (v : Value) (W : World) : (Instr.typeAssert (.iface 25 v) 20 25 false).run Tryz.prog W = .ok v W := by kernel_rfl

theorem object_must_true (e : Int) (w : World) : Calls Tryz.prog 51 #[.bool true, .int .i64 e] w fun r w' => r = .returned (.tuple #[]) ∧ w = w' := by
  go_enter Tryz.func51, Tryz.ntmps51
  go_wp2
  go_end0
  exact ⟨rfl, rfl⟩
theorem object_must_false (e : Int) (w : World) : Calls Tryz.prog 51 #[.bool false, .int .i64 e] w fun r w' => r = gaveUp e ∧ w = w' := by
  go_enter Tryz.func51, Tryz.ntmps51
  go_wp2
  exact ⟨rfl, rfl, rfl⟩
set_option maxHeartbeats 1000000 in
set_option maxRecDepth 100000 in
theorem object_caught_panicking (p : Addr) (x e : Int) (g : Nat) (cl : Array Value) (older : List PanicEntry) (w : World) (R : World → Prop) (hc : w.cell? p = some (.int .i64 x)) (hz : w.frozen? p = false)
    (hclr : Calls Tryz.prog g cl (w.setCell p (.int .i64 e)) fun r w' => r = .returned (.tuple #[]) ∧ R w') (eg : ∀ args w, (callFunc g args).run Tryz.prog w = .ok (.enter g args) w) :
    CallsD Tryz.prog 49 #[.pointer (some p), .func (.func g) #[] cl] (.panicking ({ v := .iface 25 (.int .i64 e), recovered := false } :: older)) w fun r u' w' =>
      r = .returned (.tuple #[]) ∧ u' = .panicking ({ v := .iface 25 (.int .i64 e), recovered := true } :: older) ∧ R w' := by
  refine callsD_of_wpS Tryz.func49 rfl fun c₀ cs hu => ?_
  apply wpS_seq
  apply wpS_region
  simp [wpOpsS, go_sem, recoverD, hu, Tryz.ntmps49, Exit.thenS]
  have HCL := Lib.hid hclr
  have HEG := Lib.hid eg
  clear hclr eg
  change Code.wpS Tryz.prog _ _ { tmps := #[.pointer (some p), .func (.func g) #[] cl, undef, undef, .iface 25 (.int .i64 e), .iface 25 (.int .i64 e), undef, undef, undef, undef, undef, undef, undef, undef], defers := [] } _ _
  refine wpS_of_wp ?_
  have has := assertE
  have hen := HEG.out
  go_wp2_with fail
  refine HCL.out.mono ?_
  rintro r w' ⟨rfl, hR⟩
  go_wp2
  refine ⟨rfl, _, rfl, _, results_none rfl _ _ _, rfl, rfl, hR⟩
theorem object_caught_idle (p : Addr) (cv : Value) (w : World) :
    CallsD Tryz.prog 49 #[.pointer (some p), cv] .returning w fun e u' w' => e = .returned (.tuple #[]) ∧ u' = .returning ∧ w' = w := by
  refine callsD_of_wpS Tryz.func49 rfl fun c₀ cs hu => ?_
  apply wpS_seq
  apply wpS_region
  simp [wpOpsS, go_sem, recoverD, hu, Tryz.ntmps49, Exit.thenS]
  change Code.wpS Tryz.prog _ _ { tmps := #[.pointer (some p), cv, undef, undef, .nilIface, .nilIface, undef, undef, undef, undef, undef, undef, undef, undef], defers := [] } _ _
  refine wpS_of_wp ?_
  go_wp2_with fail
  refine ⟨rfl, .returning, ?_, _, results_none rfl _ _ _, rfl, rfl, rfl⟩
  cases c₀
  simp_all
theorem clear50_any (w : World) : Calls Tryz.prog 50 #[] w fun r w' => r = .returned (.tuple #[]) ∧ w = w' := by
  go_enter Tryz.func50, Tryz.ntmps50
  go_wp2
  go_end0
  exact ⟨rfl, rfl⟩

theorem cross_must_true (e : Int) (w : World) : Calls Tryz.prog 99 #[.bool true, .int .i64 e] w fun r w' => r = .returned (.tuple #[]) ∧ w = w' := by
  go_enter Tryz.func99, Tryz.ntmps99
  go_wp2
  go_end0
  exact ⟨rfl, rfl⟩
theorem cross_must_false (e : Int) (w : World) : Calls Tryz.prog 99 #[.bool false, .int .i64 e] w fun r w' => r = gaveUp e ∧ w = w' := by
  go_enter Tryz.func99, Tryz.ntmps99
  go_wp2
  exact ⟨rfl, rfl, rfl⟩
set_option maxHeartbeats 1000000 in
set_option maxRecDepth 100000 in
theorem cross_caught_panicking (p : Addr) (x e : Int) (g : Nat) (cl : Array Value) (older : List PanicEntry) (w : World) (R : World → Prop) (hc : w.cell? p = some (.int .i64 x)) (hz : w.frozen? p = false)
    (hclr : Calls Tryz.prog g cl (w.setCell p (.int .i64 e)) fun r w' => r = .returned (.tuple #[]) ∧ R w') (eg : ∀ args w, (callFunc g args).run Tryz.prog w = .ok (.enter g args) w) :
    CallsD Tryz.prog 97 #[.pointer (some p), .func (.func g) #[] cl] (.panicking ({ v := .iface 25 (.int .i64 e), recovered := false } :: older)) w fun r u' w' =>
      r = .returned (.tuple #[]) ∧ u' = .panicking ({ v := .iface 25 (.int .i64 e), recovered := true } :: older) ∧ R w' := by
  refine callsD_of_wpS Tryz.func97 rfl fun c₀ cs hu => ?_
  apply wpS_seq
  apply wpS_region
  simp [wpOpsS, go_sem, recoverD, hu, Tryz.ntmps97, Exit.thenS]
  have HCL := Lib.hid hclr
  have HEG := Lib.hid eg
  clear hclr eg
  change Code.wpS Tryz.prog _ _ { tmps := #[.pointer (some p), .func (.func g) #[] cl, undef, undef, .iface 25 (.int .i64 e), .iface 25 (.int .i64 e), undef, undef, undef, undef, undef, undef, undef, undef], defers := [] } _ _
  refine wpS_of_wp ?_
  have has := assertE
  have hen := HEG.out
  go_wp2_with fail
  refine HCL.out.mono ?_
  rintro r w' ⟨rfl, hR⟩
  go_wp2
  refine ⟨rfl, _, rfl, _, results_none rfl _ _ _, rfl, rfl, hR⟩
theorem cross_caught_idle (p : Addr) (cv : Value) (w : World) :
    CallsD Tryz.prog 97 #[.pointer (some p), cv] .returning w fun e u' w' => e = .returned (.tuple #[]) ∧ u' = .returning ∧ w' = w := by
  refine callsD_of_wpS Tryz.func97 rfl fun c₀ cs hu => ?_
  apply wpS_seq
  apply wpS_region
  simp [wpOpsS, go_sem, recoverD, hu, Tryz.ntmps97, Exit.thenS]
  change Code.wpS Tryz.prog _ _ { tmps := #[.pointer (some p), cv, undef, undef, .nilIface, .nilIface, undef, undef, undef, undef, undef, undef, undef, undef], defers := [] } _ _
  refine wpS_of_wp ?_
  go_wp2_with fail
  refine ⟨rfl, .returning, ?_, _, results_none rfl _ _ _, rfl, rfl, rfl⟩
  cases c₀
  simp_all

theorem point_must_true (e : Int) (w : World) : Calls Tryz.prog 189 #[.bool true, .int .i64 e] w fun r w' => r = .returned (.tuple #[]) ∧ w = w' := by
  go_enter Tryz.func189, Tryz.ntmps189
  go_wp2
  go_end0
  exact ⟨rfl, rfl⟩
theorem point_must_false (e : Int) (w : World) : Calls Tryz.prog 189 #[.bool false, .int .i64 e] w fun r w' => r = gaveUp e ∧ w = w' := by
  go_enter Tryz.func189, Tryz.ntmps189
  go_wp2
  exact ⟨rfl, rfl, rfl⟩
set_option maxHeartbeats 1000000 in
set_option maxRecDepth 100000 in
theorem point_caught_panicking (p : Addr) (x e : Int) (g : Nat) (cl : Array Value) (older : List PanicEntry) (w : World) (R : World → Prop) (hc : w.cell? p = some (.int .i64 x)) (hz : w.frozen? p = false)
    (hclr : Calls Tryz.prog g cl (w.setCell p (.int .i64 e)) fun r w' => r = .returned (.tuple #[]) ∧ R w') (eg : ∀ args w, (callFunc g args).run Tryz.prog w = .ok (.enter g args) w) :
    CallsD Tryz.prog 187 #[.pointer (some p), .func (.func g) #[] cl] (.panicking ({ v := .iface 25 (.int .i64 e), recovered := false } :: older)) w fun r u' w' =>
      r = .returned (.tuple #[]) ∧ u' = .panicking ({ v := .iface 25 (.int .i64 e), recovered := true } :: older) ∧ R w' := by
  refine callsD_of_wpS Tryz.func187 rfl fun c₀ cs hu => ?_
  apply wpS_seq
  apply wpS_region
  simp [wpOpsS, go_sem, recoverD, hu, Tryz.ntmps187, Exit.thenS]
  have HCL := Lib.hid hclr
  have HEG := Lib.hid eg
  clear hclr eg
  change Code.wpS Tryz.prog _ _ { tmps := #[.pointer (some p), .func (.func g) #[] cl, undef, undef, .iface 25 (.int .i64 e), .iface 25 (.int .i64 e), undef, undef, undef, undef, undef, undef, undef, undef], defers := [] } _ _
  refine wpS_of_wp ?_
  have has := assertE
  have hen := HEG.out
  go_wp2_with fail
  refine HCL.out.mono ?_
  rintro r w' ⟨rfl, hR⟩
  go_wp2
  refine ⟨rfl, _, rfl, _, results_none rfl _ _ _, rfl, rfl, hR⟩
theorem point_caught_idle (p : Addr) (cv : Value) (w : World) :
    CallsD Tryz.prog 187 #[.pointer (some p), cv] .returning w fun e u' w' => e = .returned (.tuple #[]) ∧ u' = .returning ∧ w' = w := by
  refine callsD_of_wpS Tryz.func187 rfl fun c₀ cs hu => ?_
  apply wpS_seq
  apply wpS_region
  simp [wpOpsS, go_sem, recoverD, hu, Tryz.ntmps187, Exit.thenS]
  change Code.wpS Tryz.prog _ _ { tmps := #[.pointer (some p), cv, undef, undef, .nilIface, .nilIface, undef, undef, undef, undef, undef, undef, undef, undef], defers := [] } _ _
  refine wpS_of_wp ?_
  go_wp2_with fail
  refine ⟨rfl, .returning, ?_, _, results_none rfl _ _ _, rfl, rfl, rfl⟩
  cases c₀
  simp_all

theorem limb_must_true (e : Int) (w : World) : Calls Tryz.prog 192 #[.bool true, .int .i64 e] w fun r w' => r = .returned (.tuple #[]) ∧ w = w' := by
  go_enter Tryz.func192, Tryz.ntmps192
  go_wp2
  go_end0
  exact ⟨rfl, rfl⟩
theorem limb_must_false (e : Int) (w : World) : Calls Tryz.prog 192 #[.bool false, .int .i64 e] w fun r w' => r = gaveUp e ∧ w = w' := by
  go_enter Tryz.func192, Tryz.ntmps192
  go_wp2
  exact ⟨rfl, rfl, rfl⟩
set_option maxHeartbeats 1000000 in
set_option maxRecDepth 100000 in
theorem limb_caught_panicking (p : Addr) (x e : Int) (g : Nat) (cl : Array Value) (older : List PanicEntry) (w : World) (R : World → Prop) (hc : w.cell? p = some (.int .i64 x)) (hz : w.frozen? p = false)
    (hclr : Calls Tryz.prog g cl (w.setCell p (.int .i64 e)) fun r w' => r = .returned (.tuple #[]) ∧ R w') (eg : ∀ args w, (callFunc g args).run Tryz.prog w = .ok (.enter g args) w) :
    CallsD Tryz.prog 152 #[.pointer (some p), .func (.func g) #[] cl] (.panicking ({ v := .iface 25 (.int .i64 e), recovered := false } :: older)) w fun r u' w' =>
      r = .returned (.tuple #[]) ∧ u' = .panicking ({ v := .iface 25 (.int .i64 e), recovered := true } :: older) ∧ R w' := by
  refine callsD_of_wpS Tryz.func152 rfl fun c₀ cs hu => ?_
  apply wpS_seq
  apply wpS_region
  simp [wpOpsS, go_sem, recoverD, hu, Tryz.ntmps152, Exit.thenS]
  have HCL := Lib.hid hclr
  have HEG := Lib.hid eg
  clear hclr eg
  change Code.wpS Tryz.prog _ _ { tmps := #[.pointer (some p), .func (.func g) #[] cl, undef, undef, .iface 25 (.int .i64 e), .iface 25 (.int .i64 e), undef, undef, undef, undef, undef, undef, undef, undef], defers := [] } _ _
  refine wpS_of_wp ?_
  have has := assertE
  have hen := HEG.out
  go_wp2_with fail
  refine HCL.out.mono ?_
  rintro r w' ⟨rfl, hR⟩
  go_wp2
  refine ⟨rfl, _, rfl, _, results_none rfl _ _ _, rfl, rfl, hR⟩
theorem limb_caught_idle (p : Addr) (cv : Value) (w : World) :
    CallsD Tryz.prog 152 #[.pointer (some p), cv] .returning w fun e u' w' => e = .returned (.tuple #[]) ∧ u' = .returning ∧ w' = w := by
  refine callsD_of_wpS Tryz.func152 rfl fun c₀ cs hu => ?_
  apply wpS_seq
  apply wpS_region
  simp [wpOpsS, go_sem, recoverD, hu, Tryz.ntmps152, Exit.thenS]
  change Code.wpS Tryz.prog _ _ { tmps := #[.pointer (some p), cv, undef, undef, .nilIface, .nilIface, undef, undef, undef, undef, undef, undef, undef, undef], defers := [] } _ _
  refine wpS_of_wp ?_
  go_wp2_with fail
  refine ⟨rfl, .returning, ?_, _, results_none rfl _ _ _, rfl, rfl, rfl⟩
  cases c₀
  simp_all

theorem ratio_must_true (e : Int) (w : World) : Calls Tryz.prog 159 #[.bool true, .int .i64 e] w fun r w' => r = .returned (.tuple #[]) ∧ w = w' := by
  go_enter Tryz.func159, Tryz.ntmps159
  go_wp2
  go_end0
  exact ⟨rfl, rfl⟩
theorem ratio_must_false (e : Int) (w : World) : Calls Tryz.prog 159 #[.bool false, .int .i64 e] w fun r w' => r = gaveUp e ∧ w = w' := by
  go_enter Tryz.func159, Tryz.ntmps159
  go_wp2
  exact ⟨rfl, rfl, rfl⟩
set_option maxHeartbeats 1000000 in
set_option maxRecDepth 100000 in
theorem ratio_caught_panicking (p : Addr) (x e : Int) (g : Nat) (cl : Array Value) (older : List PanicEntry) (w : World) (R : World → Prop) (hc : w.cell? p = some (.int .i64 x)) (hz : w.frozen? p = false)
    (hclr : Calls Tryz.prog g cl (w.setCell p (.int .i64 e)) fun r w' => r = .returned (.tuple #[]) ∧ R w') (eg : ∀ args w, (callFunc g args).run Tryz.prog w = .ok (.enter g args) w) :
    CallsD Tryz.prog 157 #[.pointer (some p), .func (.func g) #[] cl] (.panicking ({ v := .iface 25 (.int .i64 e), recovered := false } :: older)) w fun r u' w' =>
      r = .returned (.tuple #[]) ∧ u' = .panicking ({ v := .iface 25 (.int .i64 e), recovered := true } :: older) ∧ R w' := by
  refine callsD_of_wpS Tryz.func157 rfl fun c₀ cs hu => ?_
  apply wpS_seq
  apply wpS_region
  simp [wpOpsS, go_sem, recoverD, hu, Tryz.ntmps157, Exit.thenS]
  have HCL := Lib.hid hclr
  have HEG := Lib.hid eg
  clear hclr eg
  change Code.wpS Tryz.prog _ _ { tmps := #[.pointer (some p), .func (.func g) #[] cl, undef, undef, .iface 25 (.int .i64 e), .iface 25 (.int .i64 e), undef, undef, undef, undef, undef, undef, undef, undef], defers := [] } _ _
  refine wpS_of_wp ?_
  have has := assertE
  have hen := HEG.out
  go_wp2_with fail
  refine HCL.out.mono ?_
  rintro r w' ⟨rfl, hR⟩
  go_wp2
  refine ⟨rfl, _, rfl, _, results_none rfl _ _ _, rfl, rfl, hR⟩
theorem ratio_caught_idle (p : Addr) (cv : Value) (w : World) :
    CallsD Tryz.prog 157 #[.pointer (some p), cv] .returning w fun e u' w' => e = .returned (.tuple #[]) ∧ u' = .returning ∧ w' = w := by
  refine callsD_of_wpS Tryz.func157 rfl fun c₀ cs hu => ?_
  apply wpS_seq
  apply wpS_region
  simp [wpOpsS, go_sem, recoverD, hu, Tryz.ntmps157, Exit.thenS]
  change Code.wpS Tryz.prog _ _ { tmps := #[.pointer (some p), cv, undef, undef, .nilIface, .nilIface, undef, undef, undef, undef, undef, undef, undef, undef], defers := [] } _ _
  refine wpS_of_wp ?_
  go_wp2_with fail
  refine ⟨rfl, .returning, ?_, _, results_none rfl _ _ _, rfl, rfl, rfl⟩
  cases c₀
  simp_all
end Go.Proofs.YticconhcphocbaaGreatDoor
