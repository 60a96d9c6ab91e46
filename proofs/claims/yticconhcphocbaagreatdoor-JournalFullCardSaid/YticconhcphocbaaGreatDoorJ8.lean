/- A step turned round. -/
import Derived.Test.YticconhcphocbaaGreatDoorJ7
namespace Go.Proofs.YticconhcphocbaaGreatDoor
open Go.RowKit Go.Sort Go.Shelf

theorem Tryz.size40 : (Tryz.prog.info? 40).map (·.size) = some 9 := by kernel_rfl
theorem sv_all (pt : Bool) (id : Int) : (#[.bool pt, Ii id, Ii 0, .bool true, Ii id, Ii 0, Ii id, Ii 1, .slice none 0 0] : Array Value).all (·.oneCell') = true := by simp [Value.oneCell']

set_option maxHeartbeats 4000000 in
set_option maxRecDepth 100000 in
theorem inv1_lit (pt : Bool) (id : Int) (w : World) : Calls Tryz.prog 59 #[.agg #[.bool pt, Ii id, Ii 0, .bool true, Ii id, Ii 0, Ii id, Ii 1, .slice none 0 0]] w fun e w' => e = .returned (.agg #[.bool (!pt), Ii id, Ii 0, .bool true, Ii id, Ii 0, Ii id, Ii 1, .slice none 0 0]) ∧ Below w.heap.size w w' := by
  obtain ⟨V, hV⟩ : ∃ V, V = (w.alloc (.cells #[.bool pt, Ii id, Ii 0, .bool true, Ii id, Ii 0, Ii id, Ii 1, .slice none 0 0] 40)).alloc (.cells #[.bool false, Ii 0, Ii 0, .bool false, Ii 0, Ii 0, Ii 0, Ii 0, .slice none 0 0] 40) := ⟨_, rfl⟩
  obtain ⟨b0, hb0⟩ : ∃ b0, b0 = w.heap.size := ⟨_, rfl⟩
  have hb : Below w.heap.size w V := by rw [hV]; exact ((Below.refl _ w).alloc (Nat.le_refl _) _).alloc (by rw [World.size_alloc]; omega) _
  have hk : V.heap[b0]? = some (.cells #[.bool pt, Ii id, Ii 0, .bool true, Ii id, Ii 0, Ii id, Ii 1, .slice none 0 0] 40 (0, 0)) := by rw [hV, hb0]; exact block_alloc_old _ (block_alloc_new w _)
  have hk1 : V.heap[b0 + 1]? = some (.cells #[.bool false, Ii 0, Ii 0, .bool false, Ii 0, Ii 0, Ii 0, Ii 0, .slice none 0 0] 40 (0, 0)) := by
    have := block_alloc_new (w.alloc (.cells #[.bool pt, Ii id, Ii 0, .bool true, Ii id, Ii 0, Ii id, Ii 1, .slice none 0 0] 40)) (.cells #[.bool false, Ii 0, Ii 0, .bool false, Ii 0, Ii 0, Ii 0, Ii 0, .slice none 0 0] 40)
    rw [World.size_alloc] at this
    rw [hV, hb0]; exact this
  have HB := Lib.hid hb
  have HB0 := Lib.hid hb0
  have HK := Lib.hid hk
  have HK1 := Lib.hid hk1
  clear hb hk1 hk
  go_enter Tryz.func59, Tryz.ntmps59
  go_upto_region 1 with fail
  rw [← hV, ← hb0]
  clear hV hb0
  have c0 := cell_of (o := 0) (v := .bool pt) HK.out rfl
  have c1 := cell_of (o := 1) (v := Ii id) HK.out rfl
  have c2 := cell_of (o := 2) (v := Ii 0) HK.out rfl
  have c3 := cell_of (o := 3) (v := .bool true) HK.out rfl
  have c4 := cell_of (o := 4) (v := Ii id) HK.out rfl
  have c5 := cell_of (o := 5) (v := Ii 0) HK.out rfl
  have c6 := cell_of (o := 6) (v := Ii id) HK.out rfl
  have c7 := cell_of (o := 7) (v := Ii 1) HK.out rfl
  have c8 := cell_of (o := 8) (v := .slice none 0 0) HK.out rfl
  have HO := Lib.hid (show Calls Tryz.prog 30 #[.agg #[.bool pt, Ii id, Ii 0, .bool true, Ii id, Ii 0, Ii id, Ii 1, .slice none 0 0]] V fun e w' => e = .returned (.agg #[.bool pt, Ii id, Ii 0, .bool true, Ii id, Ii 0, Ii id, Ii 1, .slice none 0 0]) ∧ Below V.heap.size V w' from own_any (pt, id) V)
  go_wp2_with fail
  refine HO.out.mono ?_
  rintro e w1 ⟨rfl, hb1⟩
  have HB1 := Lib.hid (HB.out.trans (hb1.mono HB.out.size))
  have HK2 := Lib.hid ((hb1.block b0 (lt_of_block HK.out)).trans HK.out)
  have HK3 := Lib.hid ((hb1.block (b0 + 1) (lt_of_block HK1.out)).trans HK1.out)
  clear c0 c1 c2 c3 c4 c5 c6 c7 c8
  clear hb1 HO HB HK HK1
  obtain ⟨U, hU⟩ : ∃ U, U = w1.setRow b0 #[.bool pt, Ii id, Ii 0, .bool true, Ii id, Ii 0, Ii id, Ii 1, .slice none 0 0] := ⟨_, rfl⟩
  have hsz := Tryz.size40
  have hal := sv_all pt id
  have hBU : Below w.heap.size w U := by rw [hU]; exact below_setRow HB1.out (by rw [HB0.out]; omega) _
  have hu : U.heap[b0]? = some (.cells #[.bool pt, Ii id, Ii 0, .bool true, Ii id, Ii 0, Ii id, Ii 1, .slice none 0 0] 40 (0, 0)) := by rw [hU]; exact setRow_heap _ _ _ _ _ _ HK2.out
  have hu1 : U.heap[b0 + 1]? = some (.cells #[.bool false, Ii 0, Ii 0, .bool false, Ii 0, Ii 0, Ii 0, Ii 0, .slice none 0 0] 40 (0, 0)) := by rw [hU]; exact (setRow_other _ _ _ _ (by omega)).trans HK3.out
  have HBU := Lib.hid hBU
  have HU := Lib.hid hu
  have HU1 := Lib.hid hu1
  clear hBU hu hu1
  go_upto_region 2 with (refine wpList_store_row rfl 40 (.tmp 1) (.tmp 4) rfl b0 #[.bool pt, Ii id, Ii 0, .bool true, Ii id, Ii 0, Ii id, Ii 1, .slice none 0 0] rfl rfl 40 _ HK2.out hsz rfl hal ?_)
  rw [← hU]
  clear hU HK2 HK3 HB1
  have c0 := cell_of (o := 0) (v := .bool pt) HU.out rfl
  have f0 := free_of (o := 0) HU.out
  obtain ⟨Y, hY⟩ : ∃ Y, Y = U.setCell ⟨b0, 0, none⟩ (.bool (!pt)) := ⟨_, rfl⟩
  have hBY : Below w.heap.size w Y := by rw [hY]; exact HBU.out.setCell (p := ⟨b0, 0, none⟩) (by show w.heap.size ≤ b0; rw [HB0.out]; omega) _
  have hy : Y.heap[b0]? = some (.cells #[.bool (!pt), Ii id, Ii 0, .bool true, Ii id, Ii 0, Ii id, Ii 1, .slice none 0 0] 40 (0, 0)) := by rw [hY]; exact block_setCell (o := 0) (.bool (!pt)) HU.out
  have hy1 : Y.heap[b0 + 1]? = some (.cells #[.bool false, Ii 0, Ii 0, .bool false, Ii 0, Ii 0, Ii 0, Ii 0, .slice none 0 0] 40 (0, 0)) := by rw [hY]; exact (block_setCell_other _ (by show b0 + 1 ≠ b0; omega)).trans HU1.out
  have HBY := Lib.hid hBY
  have HY := Lib.hid hy
  have HY1 := Lib.hid hy1
  clear hBY hy hy1
  go_upto_region 3 with fail
  rw [← hY]
  clear hY c0 f0 HU HU1 HBU hal
  have c0 := cell_of (o := 0) (v := .bool (!pt)) HY.out rfl
  have c1 := cell_of (o := 1) (v := Ii id) HY.out rfl
  have c2 := cell_of (o := 2) (v := Ii 0) HY.out rfl
  have c3 := cell_of (o := 3) (v := .bool true) HY.out rfl
  have c4 := cell_of (o := 4) (v := Ii id) HY.out rfl
  have c5 := cell_of (o := 5) (v := Ii 0) HY.out rfl
  have c6 := cell_of (o := 6) (v := Ii id) HY.out rfl
  have c7 := cell_of (o := 7) (v := Ii 1) HY.out rfl
  have c8 := cell_of (o := 8) (v := .slice none 0 0) HY.out rfl
  have hal := sv_all (!pt) id
  obtain ⟨X, hX⟩ : ∃ X, X = Y.setRow (b0 + 1) #[.bool (!pt), Ii id, Ii 0, .bool true, Ii id, Ii 0, Ii id, Ii 1, .slice none 0 0] := ⟨_, rfl⟩
  have hBX : Below w.heap.size w X := by rw [hX]; exact below_setRow HBY.out (by rw [HB0.out]; omega) _
  have hx : X.heap[b0 + 1]? = some (.cells #[.bool (!pt), Ii id, Ii 0, .bool true, Ii id, Ii 0, Ii id, Ii 1, .slice none 0 0] 40 (0, 0)) := by rw [hX]; exact setRow_heap _ _ _ _ _ _ HY1.out
  have d0 := cell_of (o := 0) (v := .bool (!pt)) hx rfl
  have d1 := cell_of (o := 1) (v := Ii id) hx rfl
  have d2 := cell_of (o := 2) (v := Ii 0) hx rfl
  have d3 := cell_of (o := 3) (v := .bool true) hx rfl
  have d4 := cell_of (o := 4) (v := Ii id) hx rfl
  have d5 := cell_of (o := 5) (v := Ii 0) hx rfl
  have d6 := cell_of (o := 6) (v := Ii id) hx rfl
  have d7 := cell_of (o := 7) (v := Ii 1) hx rfl
  have d8 := cell_of (o := 8) (v := .slice none 0 0) hx rfl
  go_wp2_with (refine wpList_store_row rfl 40 (.tmp 2) (.tmp 9) rfl (b0 + 1) #[.bool (!pt), Ii id, Ii 0, .bool true, Ii id, Ii 0, Ii id, Ii 1, .slice none 0 0] rfl rfl 40 _ HY1.out hsz rfl hal ?_)
  rw [← hX]
  exact bodyPost_ret (v := .agg #[.bool (!pt), Ii id, Ii 0, .bool true, Ii id, Ii 0, Ii id, Ii 1, .slice none 0 0]) (by simp [results, Tryz.results59, go_sem, d0, d1, d2, d3, d4, d5, d6, d7, d8]) rfl ⟨rfl, hBX⟩
end Go.Proofs.YticconhcphocbaaGreatDoor
