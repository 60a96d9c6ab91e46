/- The document's answers on the segment of the number 1: whether steps are the same. -/
import Derived.Test.YticconhcphocbaaGreatDoorJ13
namespace Go.Proofs.YticconhcphocbaaGreatDoor
open Go.RowKit Go.Sort Go.Shelf

set_option maxRecDepth 100000 in
theorem right_one (w : World) : Calls Tryz.prog 83 #[.agg #[Ii 1, Ii 0, Ii 1, Ii 1]] w fun e w' => e = .returned (.bool true) ∧ Below w.heap.size w w' := by
  obtain ⟨V, hV⟩ : ∃ V, V = w.alloc (.cells #[Ii 1, Ii 0, Ii 1, Ii 1] 32) := ⟨_, rfl⟩
  have hb : Below w.heap.size w V := by rw [hV]; exact (Below.refl _ w).alloc (Nat.le_refl _) _
  have k : V.heap[w.heap.size]? = some (.cells #[Ii 1, Ii 0, Ii 1, Ii 1] 32 (0, 0)) := by rw [hV]; exact block_alloc_new w _
  have HB := Lib.hid hb
  have HK := Lib.hid k
  clear hb k
  have c0 := cell_of (o := 0) (v := Ii 1) HK.out rfl
  have c1 := cell_of (o := 1) (v := Ii 0) HK.out rfl
  have c2 := cell_of (o := 2) (v := Ii 1) HK.out rfl
  have c3 := cell_of (o := 3) (v := Ii 1) HK.out rfl
  have HN := Lib.hid (fun X y (h : -67108864 ≤ y) (h' : y ≤ 67108864) => rnode_any 1 y X (by omega) (by omega) h h')
  go_enter Tryz.func83, Tryz.ntmps83
  go_upto_region 1 with fail
  rw [← hV]
  clear hV
  go_wp2_with fail
  refine (HN.out _ _ (by omega) (by omega)).mono ?_
  rintro e w1 ⟨rfl, hb1⟩
  have HB1 := Lib.hid (HB.out.trans (hb1.mono HB.out.size))
  have HK1 := Lib.hid ((hb1.block _ (lt_of_block HK.out)).trans HK.out)
  clear hb1 c0 c1 c2 c3
  have c0 := cell_of (o := 0) (v := Ii 1) HK1.out rfl
  have c1 := cell_of (o := 1) (v := Ii 0) HK1.out rfl
  have c2 := cell_of (o := 2) (v := Ii 1) HK1.out rfl
  have c3 := cell_of (o := 3) (v := Ii 1) HK1.out rfl
  go_wp2_with fail
  refine (HN.out _ _ (by omega) (by omega)).mono ?_
  rintro e w2 ⟨rfl, hb2⟩
  have HB2 := Lib.hid (HB1.out.trans (hb2.mono HB1.out.size))
  have HK2 := Lib.hid ((hb2.block _ (lt_of_block HK1.out)).trans HK1.out)
  clear hb2 c0 c1 c2 c3
  have c0 := cell_of (o := 0) (v := Ii 1) HK2.out rfl
  have c1 := cell_of (o := 1) (v := Ii 0) HK2.out rfl
  have c2 := cell_of (o := 2) (v := Ii 1) HK2.out rfl
  have c3 := cell_of (o := 3) (v := Ii 1) HK2.out rfl
  go_wp2
  go_ret
  exact ⟨rfl, HB2.out⟩

set_option maxRecDepth 100000 in
theorem chk09_one (w : World) : Calls Tryz.prog 66 #[.agg #[.bool true, Ii 1, Ii 0, Ii 1, Ii 1, .slice none 0 0]] w fun e w' => e = .returned (.int .i64 0) ∧ Below w.heap.size w w' := by
  obtain ⟨V, hV⟩ : ∃ V, V = w.alloc (.cells #[.bool true, Ii 1, Ii 0, Ii 1, Ii 1, .slice none 0 0] 35) := ⟨_, rfl⟩
  have hb : Below w.heap.size w V := by rw [hV]; exact (Below.refl _ w).alloc (Nat.le_refl _) _
  have k : V.heap[w.heap.size]? = some (.cells #[.bool true, Ii 1, Ii 0, Ii 1, Ii 1, .slice none 0 0] 35 (0, 0)) := by rw [hV]; exact block_alloc_new w _
  have HB := Lib.hid hb
  have HK := Lib.hid k
  clear hb k
  have c0 := cell_of (o := 0) (v := .bool true) HK.out rfl
  have c1 := cell_of (o := 1) (v := Ii 1) HK.out rfl
  have c2 := cell_of (o := 2) (v := Ii 0) HK.out rfl
  have c3 := cell_of (o := 3) (v := Ii 1) HK.out rfl
  have c4 := cell_of (o := 4) (v := Ii 1) HK.out rfl
  have c5 := cell_of (o := 5) (v := .slice none 0 0) HK.out rfl
  have HR := Lib.hid (right_one V)
  go_enter Tryz.func66, Tryz.ntmps66
  go_upto_region 1 with fail
  rw [← hV]
  clear hV
  go_wp2_with fail
  refine HR.out.mono ?_
  rintro e w1 ⟨rfl, hb1⟩
  have HB1 := Lib.hid (HB.out.trans (hb1.mono HB.out.size))
  have HK1 := Lib.hid ((hb1.block _ (lt_of_block HK.out)).trans HK.out)
  clear hb1 c0 c1 c2 c3 c4 c5
  have c0 := cell_of (o := 0) (v := .bool true) HK1.out rfl
  have c1 := cell_of (o := 1) (v := Ii 1) HK1.out rfl
  have c2 := cell_of (o := 2) (v := Ii 0) HK1.out rfl
  have c3 := cell_of (o := 3) (v := Ii 1) HK1.out rfl
  have c4 := cell_of (o := 4) (v := Ii 1) HK1.out rfl
  have c5 := cell_of (o := 5) (v := .slice none 0 0) HK1.out rfl
  go_wp2
  go_ret
  exact ⟨rfl, HB1.out⟩

set_option maxRecDepth 100000 in
theorem text09_one (w : World) : Calls Tryz.prog 67 #[.agg #[.bool true, Ii 1, Ii 0, Ii 1, Ii 1, .slice none 0 0]] w fun e w' => e = .returned (.string { data := #[83, 69, 71, 77, 69, 78, 84, 40, 49, 32, 48, 44, 49, 32, 49, 41] }) ∧ Below w.heap.size w w' := by
  obtain ⟨V, hV⟩ : ∃ V, V = w.alloc (.cells #[.bool true, Ii 1, Ii 0, Ii 1, Ii 1, .slice none 0 0] 35) := ⟨_, rfl⟩
  have hb : Below w.heap.size w V := by rw [hV]; exact (Below.refl _ w).alloc (Nat.le_refl _) _
  have k : V.heap[w.heap.size]? = some (.cells #[.bool true, Ii 1, Ii 0, Ii 1, Ii 1, .slice none 0 0] 35 (0, 0)) := by rw [hV]; exact block_alloc_new w _
  have HB := Lib.hid hb
  have HK := Lib.hid k
  clear hb k
  have c0 := cell_of (o := 0) (v := .bool true) HK.out rfl
  have c1 := cell_of (o := 1) (v := Ii 1) HK.out rfl
  have c2 := cell_of (o := 2) (v := Ii 0) HK.out rfl
  have c3 := cell_of (o := 3) (v := Ii 1) HK.out rfl
  have c4 := cell_of (o := 4) (v := Ii 1) HK.out rfl
  have c5 := cell_of (o := 5) (v := .slice none 0 0) HK.out rfl
  have HR := Lib.hid (text04_any V)
  go_enter Tryz.func67, Tryz.ntmps67
  go_upto_region 1 with fail
  rw [← hV]
  clear hV
  go_wp2_with fail
  refine HR.out.mono ?_
  rintro e w1 ⟨rfl, hb1⟩
  have HB1 := Lib.hid (HB.out.trans (hb1.mono HB.out.size))
  clear hb1 c0 c1 c2 c3 c4 c5
  go_wp2
  go_ret
  exact ⟨rfl, HB1.out⟩

set_option maxHeartbeats 1000000 in
set_option maxRecDepth 100000 in
theorem refSame_one (w : World) : Calls Tryz.prog 48 #[.agg #[Ii 1, Ii 0, .bool true, Ii 1, Ii 0, Ii 1, Ii 1, .slice none 0 0], .agg #[Ii 1, Ii 0, .bool true, Ii 1, Ii 0, Ii 1, Ii 1, .slice none 0 0]] w fun e w' => e = .returned (.bool true) ∧ Below w.heap.size w w' := by
  obtain ⟨V, hV⟩ : ∃ V, V = (w.alloc (.cells #[Ii 1, Ii 0, .bool true, Ii 1, Ii 0, Ii 1, Ii 1, .slice none 0 0] 37)).alloc (.cells #[Ii 1, Ii 0, .bool true, Ii 1, Ii 0, Ii 1, Ii 1, .slice none 0 0] 37) := ⟨_, rfl⟩
  obtain ⟨b0, hb0⟩ : ∃ b0, b0 = w.heap.size := ⟨_, rfl⟩
  have hb : Below w.heap.size w V := by rw [hV]; exact ((Below.refl _ w).alloc (Nat.le_refl _) _).alloc (by rw [World.size_alloc]; omega) _
  have hk : V.heap[b0]? = some (.cells #[Ii 1, Ii 0, .bool true, Ii 1, Ii 0, Ii 1, Ii 1, .slice none 0 0] 37 (0, 0)) := by rw [hV, hb0]; exact block_alloc_old _ (block_alloc_new w _)
  have hk1 : V.heap[b0 + 1]? = some (.cells #[Ii 1, Ii 0, .bool true, Ii 1, Ii 0, Ii 1, Ii 1, .slice none 0 0] 37 (0, 0)) := by
    have := block_alloc_new (w.alloc (.cells #[Ii 1, Ii 0, .bool true, Ii 1, Ii 0, Ii 1, Ii 1, .slice none 0 0] 37)) (.cells #[Ii 1, Ii 0, .bool true, Ii 1, Ii 0, Ii 1, Ii 1, .slice none 0 0] 37)
    rw [World.size_alloc] at this
    rw [hV, hb0]; exact this
  have HB := Lib.hid hb
  have c0 := cell_of (o := 0) (v := Ii 1) hk rfl
  have c1 := cell_of (o := 1) (v := Ii 0) hk rfl
  have c2 := cell_of (o := 2) (v := .bool true) hk rfl
  have c3 := cell_of (o := 3) (v := Ii 1) hk rfl
  have c4 := cell_of (o := 4) (v := Ii 0) hk rfl
  have c5 := cell_of (o := 5) (v := Ii 1) hk rfl
  have c6 := cell_of (o := 6) (v := Ii 1) hk rfl
  have c7 := cell_of (o := 7) (v := .slice none 0 0) hk rfl
  have d0 := cell_of (o := 0) (v := Ii 1) hk1 rfl
  have d1 := cell_of (o := 1) (v := Ii 0) hk1 rfl
  have d2 := cell_of (o := 2) (v := .bool true) hk1 rfl
  have d3 := cell_of (o := 3) (v := Ii 1) hk1 rfl
  have d4 := cell_of (o := 4) (v := Ii 0) hk1 rfl
  have d5 := cell_of (o := 5) (v := Ii 1) hk1 rfl
  have d6 := cell_of (o := 6) (v := Ii 1) hk1 rfl
  have d7 := cell_of (o := 7) (v := .slice none 0 0) hk1 rfl
  have y0 := fun y : Ext V => Ext.cell c0 y
  have z0 := fun y : Ext V => Ext.cell d0 y
  have y1 := fun y : Ext V => Ext.cell c1 y
  have z1 := fun y : Ext V => Ext.cell d1 y
  have y2 := fun y : Ext V => Ext.cell c2 y
  have z2 := fun y : Ext V => Ext.cell d2 y
  have y3 := fun y : Ext V => Ext.cell c3 y
  have z3 := fun y : Ext V => Ext.cell d3 y
  have y4 := fun y : Ext V => Ext.cell c4 y
  have z4 := fun y : Ext V => Ext.cell d4 y
  have y5 := fun y : Ext V => Ext.cell c5 y
  have z5 := fun y : Ext V => Ext.cell d5 y
  have y6 := fun y : Ext V => Ext.cell c6 y
  have z6 := fun y : Ext V => Ext.cell d6 y
  have y7 := fun y : Ext V => Ext.cell c7 y
  have z7 := fun y : Ext V => Ext.cell d7 y
  have HC := Lib.hid (fun x : Ext V => x.calls (chk09_one x.w))
  have HT := Lib.hid (fun x : Ext V => x.calls (text09_one x.w))
  clear c0 d0 c1 d1 c2 d2 c3 d3 c4 d4 c5 d5 c6 d6 c7 d7 hb hk hk1
  go_enter Tryz.func48, Tryz.ntmps48
  go_upto_region 1 with fail
  rw [← hV, ← hb0]
  clear hV hb0
  refine wp_region_quiet_class (fun X => ∃ y : Ext V, X = y.w) (by kernel_rfl) (by kernel_rfl) ⟨Ext.drew V, rfl⟩ ?_
  repeat (go_big_quiet_step (first | (go_at_call 66; exact HC.out _) | (go_at_call 67; exact HT.out _)))
  refine wpQuiet_nil ?_
  rintro _ ⟨y, rfl⟩
  go_wp2
  go_ret
  exact ⟨rfl, HB.out.trans (y.b.mono HB.out.size)⟩
end Go.Proofs.YticconhcphocbaaGreatDoor
