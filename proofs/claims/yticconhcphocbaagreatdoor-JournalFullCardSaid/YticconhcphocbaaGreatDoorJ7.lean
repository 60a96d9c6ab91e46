/- Note, where no group is open, or where it is full. -/
import Derived.Test.YticconhcphocbaaGreatDoorJ6
namespace Go.Proofs.YticconhcphocbaaGreatDoor
open Go.RowKit Go.Sort Go.Shelf

set_option maxHeartbeats 4000000 in
set_option maxRecDepth 100000 in
theorem note_shut (jb : Nat) (p0 : Option Addr) (n cc0 : Nat) (d u : Value) (pt : Bool) (id : Int) (w : World) (h : JB w jb (.slice p0 n cc0) false d u true) (h1 : 1 ≤ id) (h2 : id ≤ 1000) :
    Calls Tryz.prog 10 #[.pointer (some ⟨jb, 0, none⟩), .agg #[.bool pt, Ii id, Ii 0, .bool true, Ii id, Ii 0, Ii id, Ii 1, .slice none 0 0]] w fun e w' => e = .returned (.int .i64 341) ∧ Below w.heap.size w w' := by
  obtain ⟨V, hV⟩ : ∃ V, V = w.alloc (.cells #[.bool pt, Ii id, Ii 0, .bool true, Ii id, Ii 0, Ii id, Ii 1, .slice none 0 0] 40) := ⟨_, rfl⟩
  have hb : Below w.heap.size w V := by rw [hV]; exact (Below.refl _ w).alloc (Nat.le_refl _) _
  obtain ⟨b0, hb0⟩ : ∃ b0, b0 = w.heap.size := ⟨_, rfl⟩
  have hk : V.heap[b0]? = some (.cells #[.bool pt, Ii id, Ii 0, .bool true, Ii id, Ii 0, Ii id, Ii 1, .slice none 0 0] 40 (0, 0)) := by rw [hV, hb0]; exact block_alloc_new w _
  have HB := Lib.hid hb
  have HK := Lib.hid hk
  have HJ := Lib.hid (h.later hb)
  have HN := Lib.hid (none_any jb _ d u false true V (h.later hb))
  clear h hb hk
  go_enter Tryz.func10, Tryz.ntmps10
  go_wp2_with fail
  refine wp_scope_forward 0 rfl ?_
  go_wp2_with fail
  rw [← hV, ← hb0]
  clear hV hb0
  refine HN.out.mono ?_
  rintro e w1 ⟨rfl, rfl⟩
  have c1 := cell_of (o := 1) (v := Ii id) HK.out rfl
  have c2 := cell_of (o := 2) (v := Ii 0) HK.out rfl
  have c3 := cell_of (o := 3) (v := .bool true) HK.out rfl
  have c4 := cell_of (o := 4) (v := Ii id) HK.out rfl
  have c5 := cell_of (o := 5) (v := Ii 0) HK.out rfl
  have c6 := cell_of (o := 6) (v := Ii id) HK.out rfl
  have c7 := cell_of (o := 7) (v := Ii 1) HK.out rfl
  have c8 := cell_of (o := 8) (v := .slice none 0 0) HK.out rfl
  have HC := Lib.hid (fun W => objCheck_any id 0 id 0 id 1 none 0 W h1 (by omega) (by omega) (by omega) (sgE_one id h1 h2))
  go_wp2_with fail
  refine (HC.out _).mono ?_
  rintro e w2 ⟨rfl, hb2⟩
  have HB2 := Lib.hid (HB.out.trans (hb2.mono HB.out.size))
  have HJ2 := Lib.hid (HJ.out.later hb2)
  clear c1 c2 c3 c4 c5 c6 c7 c8 hb2 HC HN HB HJ HK
  obtain ⟨j0, j1, _, _, _⟩ := HJ2.out.c
  go_wp2
  refine wp_goto ?_
  simp only [Exit.then]
  refine jump_goto ?_
  go_wp2
  rw [nogo_ret]
  go_ret
  exact ⟨rfl, HB2.out⟩

set_option maxHeartbeats 4000000 in
set_option maxRecDepth 100000 in
theorem note_full (jb : Nat) (p0 : Option Addr) (n cc0 : Nat) (d u : Value) (pt : Bool) (id : Int) (w : World) (h : JB w jb (.slice p0 n cc0) true d u true) (h1 : 1 ≤ id) (h2 : id ≤ 1000) (hn : 128 ≤ n) :
    Calls Tryz.prog 10 #[.pointer (some ⟨jb, 0, none⟩), .agg #[.bool pt, Ii id, Ii 0, .bool true, Ii id, Ii 0, Ii id, Ii 1, .slice none 0 0]] w fun e w' => e = .returned (.int .i64 3) ∧ Below w.heap.size w w' := by
  obtain ⟨V, hV⟩ : ∃ V, V = w.alloc (.cells #[.bool pt, Ii id, Ii 0, .bool true, Ii id, Ii 0, Ii id, Ii 1, .slice none 0 0] 40) := ⟨_, rfl⟩
  have hb : Below w.heap.size w V := by rw [hV]; exact (Below.refl _ w).alloc (Nat.le_refl _) _
  obtain ⟨b0, hb0⟩ : ∃ b0, b0 = w.heap.size := ⟨_, rfl⟩
  have hk : V.heap[b0]? = some (.cells #[.bool pt, Ii id, Ii 0, .bool true, Ii id, Ii 0, Ii id, Ii 1, .slice none 0 0] 40 (0, 0)) := by rw [hV, hb0]; exact block_alloc_new w _
  have HB := Lib.hid hb
  have HK := Lib.hid hk
  have HJ := Lib.hid (h.later hb)
  have HN := Lib.hid (none_any jb _ d u true true V (h.later hb))
  clear h hb hk
  go_enter Tryz.func10, Tryz.ntmps10
  go_wp2_with fail
  refine wp_scope_forward 0 rfl ?_
  go_wp2_with fail
  rw [← hV, ← hb0]
  clear hV hb0
  refine HN.out.mono ?_
  rintro e w1 ⟨rfl, rfl⟩
  have c1 := cell_of (o := 1) (v := Ii id) HK.out rfl
  have c2 := cell_of (o := 2) (v := Ii 0) HK.out rfl
  have c3 := cell_of (o := 3) (v := .bool true) HK.out rfl
  have c4 := cell_of (o := 4) (v := Ii id) HK.out rfl
  have c5 := cell_of (o := 5) (v := Ii 0) HK.out rfl
  have c6 := cell_of (o := 6) (v := Ii id) HK.out rfl
  have c7 := cell_of (o := 7) (v := Ii 1) HK.out rfl
  have c8 := cell_of (o := 8) (v := .slice none 0 0) HK.out rfl
  have HC := Lib.hid (fun W => objCheck_any id 0 id 0 id 1 none 0 W h1 (by omega) (by omega) (by omega) (sgE_one id h1 h2))
  go_wp2_with fail
  refine (HC.out _).mono ?_
  rintro e w2 ⟨rfl, hb2⟩
  have HB2 := Lib.hid (HB.out.trans (hb2.mono HB.out.size))
  have HJ2 := Lib.hid (HJ.out.later hb2)
  clear c1 c2 c3 c4 c5 c6 c7 c8 hb2 HC HN HB HJ HK
  obtain ⟨j0, j1, _, _, _⟩ := HJ2.out.c
  have hl' : 128 ≤ (n : Int) := by omega
  go_wp2
  refine wp_goto ?_
  simp only [Exit.then]
  refine jump_goto ?_
  go_wp2
  rw [nogo_ret]
  go_ret
  exact ⟨rfl, HB2.out⟩
end Go.Proofs.YticconhcphocbaaGreatDoor
