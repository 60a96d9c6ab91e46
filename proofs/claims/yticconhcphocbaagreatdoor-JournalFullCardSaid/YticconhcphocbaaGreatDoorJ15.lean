/- Whether steps are the same, as the document says: one step of the segment 1. -/
import Derived.Test.YticconhcphocbaaGreatDoorJ14
namespace Go.Proofs.YticconhcphocbaaGreatDoor
open Go.RowKit Go.Sort Go.Shelf

theorem Stp.single {Z : Nat → Prop} {w : World} {s : Value} {x : Bool × Int} (h : Stp Z w s [x]) : ∃ b off cap, s = .slice (some ⟨b, off, none⟩) 1 cap := by
  obtain ⟨p, cap, rfl⟩ := Rw.slice h
  obtain ⟨b, off, c, e, _⟩ := Rw.at_ h (i := 0) (by simp)
  cases e
  exact ⟨b, off, _, rfl⟩

set_option maxHeartbeats 2000000 in
set_option maxRecDepth 100000 in
theorem sameSteps_one {Z Z' : Nat → Prop} (pt : Bool) (s s' : Value) (w : World) (h : Stp Z w s [(pt, 1)]) (h' : Stp Z' w s' [(pt, 1)]) : Calls Tryz.prog 26 #[s, s'] w fun e w' => e = .returned (.bool true) ∧ Below w.heap.size w w' := by
  obtain ⟨b, off, cap, rfl⟩ := h.single
  obtain ⟨b', off', cap', rfl⟩ := h'.single
  obtain ⟨c0, c1, c2, c3, c4, c5, c6, c7, c8⟩ := Stp.cells h (i := 0) (by simp)
  obtain ⟨d0, d1, d2, d3, d4, d5, d6, d7, d8⟩ := Stp.cells h' (i := 0) (by simp)
  simp only [Nat.zero_mul, Nat.add_zero, List.getElem_cons_zero] at c0 c1 c2 c3 c4 c5 c6 c7 c8 d0 d1 d2 d3 d4 d5 d6 d7 d8
  have y0 := fun y : Ext w => Ext.cell c0 y
  have z0 := fun y : Ext w => Ext.cell d0 y
  have y1 := fun y : Ext w => Ext.cell c1 y
  have z1 := fun y : Ext w => Ext.cell d1 y
  have y2 := fun y : Ext w => Ext.cell c2 y
  have z2 := fun y : Ext w => Ext.cell d2 y
  have y3 := fun y : Ext w => Ext.cell c3 y
  have z3 := fun y : Ext w => Ext.cell d3 y
  have y4 := fun y : Ext w => Ext.cell c4 y
  have z4 := fun y : Ext w => Ext.cell d4 y
  have y5 := fun y : Ext w => Ext.cell c5 y
  have z5 := fun y : Ext w => Ext.cell d5 y
  have y6 := fun y : Ext w => Ext.cell c6 y
  have z6 := fun y : Ext w => Ext.cell d6 y
  have y7 := fun y : Ext w => Ext.cell c7 y
  have z7 := fun y : Ext w => Ext.cell d7 y
  have y8 := fun y : Ext w => Ext.cell c8 y
  have z8 := fun y : Ext w => Ext.cell d8 y
  have HC := Lib.hid (fun x : Ext w => x.calls (refSame_one x.w))
  clear c0 d0 c1 d1 c2 d2 c3 d3 c4 d4 c5 d5 c6 d6 c7 d7 c8 d8 h h'
  go_enter Tryz.func26, Tryz.ntmps26
  go_wp2_with fail
  refine wp_loop_rounds 2 ?_
  rw [rounds_succ]
  go_upto_region 6 with fail
  refine wp_region_quiet_class (fun X => ∃ y : Ext w, X = y.w) (by kernel_rfl) (by kernel_rfl) ⟨Ext.drew w, rfl⟩ ?_
  repeat (go_big_quiet_step ((go_at_call 48; exact HC.out _)))
  refine wpQuiet_nil ?_
  rintro _ ⟨y, rfl⟩
  go_wp2
  rw [rounds_succ]
  go_wp2
  go_ret
  exact ⟨rfl, y.b⟩
end Go.Proofs.YticconhcphocbaaGreatDoor
