/- Which shapes and objects there are: segments. -/
import Derived.Test.YticconhcphocbaaGreatDoorJ2
import Derived.Test.YticconhcphocbaaGreatDoorCaught
import Derived.Test.YticconhcphocbaaGreatDoorRange
namespace Go.Proofs.YticconhcphocbaaGreatDoor
open Go.RowKit Go.Sort Go.Shelf

set_option maxHeartbeats 1000000 in
set_option maxRecDepth 100000 in
theorem wkt_seg (a b c d : Int) (p : Option Addr) (n cap : Nat) (w : World) :
    Calls Tryz.prog 52 #[.agg #[.bool true, .int .i64 a, .int .i64 b, .int .i64 c, .int .i64 d, .slice p n cap]] w fun e w' => e = .returned (.int .i64 (if n = 0 then sgE a b c d else 2)) ∧ Below w.heap.size w w' := by
  obtain ⟨V, hV⟩ : ∃ V, V = (w.alloc (.cells #[.bool true, .int .i64 a, .int .i64 b, .int .i64 c, .int .i64 d, .slice p n cap] 35)).alloc (.cells #[.int .i64 0] 25) := ⟨_, rfl⟩
  have hb : Below w.heap.size w V := by rw [hV]; exact ((Below.refl _ w).alloc (Nat.le_refl _) _).alloc (by rw [World.size_alloc]; omega) _
  obtain ⟨b0, hb0⟩ : ∃ b0, b0 = w.heap.size := ⟨_, rfl⟩
  have hk : V.heap[b0]? = some (.cells #[.bool true, .int .i64 a, .int .i64 b, .int .i64 c, .int .i64 d, .slice p n cap] 35 (0, 0)) := by rw [hV, hb0]; exact block_alloc_old _ (block_alloc_new w _)
  have hk1 : V.heap[b0 + 1]? = some (.cells #[.int .i64 0] 25 (0, 0)) := by
    have := block_alloc_new (w.alloc (.cells #[.bool true, .int .i64 a, .int .i64 b, .int .i64 c, .int .i64 d, .slice p n cap] 35)) (.cells #[.int .i64 0] 25)
    rw [World.size_alloc] at this
    rw [hV, hb0]; exact this
  have HS := Lib.hid (seg_any a b c d V)
  have HB := Lib.hid hb
  have HK := Lib.hid hk
  have HK1 := Lib.hid hk1
  have HB0 := Lib.hid hb0
  clear hb hk hk1
  go_enter Tryz.func52, Tryz.ntmps52
  go_upto_region 1 with fail
  rw [← hV, ← hb0]
  clear hV hb0
  have c0 := cell_of (o := 0) (v := .bool true) HK.out rfl
  have c1 := cell_of (o := 1) (v := .int .i64 a) HK.out rfl
  have c2 := cell_of (o := 2) (v := .int .i64 b) HK.out rfl
  have c3 := cell_of (o := 3) (v := .int .i64 c) HK.out rfl
  have c4 := cell_of (o := 4) (v := .int .i64 d) HK.out rfl
  have c5 := cell_of (o := 5) (v := .slice p n cap) HK.out rfl
  have e0 := cell_of (o := 0) (v := .int .i64 0) HK1.out rfl
  have f0 := free_of (o := 0) HK1.out
  by_cases hn : n = 0
  · subst hn
    go_wp2_with fail
    refine HS.out.mono ?_
    rintro e w1 ⟨rfl, hb1⟩
    have k1 := (hb1.block (b0 + 1) (lt_of_block HK1.out)).trans HK1.out
    have HB1 := Lib.hid (HB.out.trans (hb1.mono HB.out.size))
    have hbs : Below w.heap.size w (w1.setCell ⟨b0 + 1, 0, none⟩ (.int .i64 (sgE a b c d))) := HB1.out.setCell (p := ⟨b0 + 1, 0, none⟩) (by show w.heap.size ≤ b0 + 1; rw [HB0.out]; omega) _
    have hv := cell_of (o := 0) (v := .int .i64 (sgE a b c d)) (block_setCell (o := 0) (.int .i64 (sgE a b c d)) k1) rfl
    have HBS := Lib.hid hbs
    clear e0 f0 c0 c1 c2 c3 c4 c5 hb1 hbs
    have e0 := cell_of (o := 0) (v := .int .i64 0) k1 rfl
    have f0 := free_of (o := 0) k1
    clear k1
    go_wp2
    exact bodyPost_ret (v := .int .i64 (sgE a b c d)) (by simp [results, Tryz.results52, go_sem, hv]) rfl ⟨by simp, HBS.out⟩
  · have hn' : 0 < (n : Int) := by omega
    have hbs : Below w.heap.size w (V.setCell ⟨b0 + 1, 0, none⟩ (.int .i64 2)) := HB.out.setCell (p := ⟨b0 + 1, 0, none⟩) (by show w.heap.size ≤ b0 + 1; rw [HB0.out]; omega) _
    have hv := cell_of (o := 0) (v := .int .i64 2) (block_setCell (o := 0) (.int .i64 2) HK1.out) rfl
    have HBS := Lib.hid hbs
    have HN := Lib.hid hn
    clear hbs hn
    have hn2 : 0 < n := by omega
    go_wp2
    exact bodyPost_ret (v := .int .i64 2) (by simp [results, Tryz.results52, go_sem, hv]) rfl ⟨rfl, HBS.out⟩
end Go.Proofs.YticconhcphocbaaGreatDoor
