/- The document's answers on the segment of the number 1. -/
import Derived.Test.YticconhcphocbaaGreatDoorJ12
namespace Go.Proofs.YticconhcphocbaaGreatDoor
open Go.RowKit Go.Sort Go.Shelf

def sOf (l : List UInt8) : Value := .string { data := l.toArray }

theorem rnode_any (x y : Int) (w : World) (hx : -67108864 ≤ x) (hx' : x ≤ 67108864) (hy : -67108864 ≤ y) (hy' : y ≤ 67108864) : Calls Tryz.prog 84 #[.agg #[Ii x, Ii y]] w fun e w' => e = .returned (.bool true) ∧ Below w.heap.size w w' := by
  have hb : Below w.heap.size w (w.alloc (.cells #[Ii x, Ii y] 30)) := (Below.refl _ w).alloc (Nat.le_refl _) _
  have HB := Lib.hid hb
  have k := block_alloc_new w (.cells #[Ii x, Ii y] 30)
  have c0 := cell_of (o := 0) (v := Ii x) k rfl
  have c1 := cell_of (o := 1) (v := Ii y) k rfl
  clear hb k
  go_enter Tryz.func84, Tryz.ntmps84
  go_wp2
  go_ret
  exact ⟨rfl, HB.out⟩

theorem small_any (n : Int) (w : World) (h : n = 0 ∨ n = 1) : Calls Tryz.prog 182 #[.int .i64 n] w fun e w' => e = .returned (sOf [if n = 0 then 48 else 49]) ∧ w = w' := by
  rcases h with rfl | rfl
  · go_enter Tryz.func182, Tryz.ntmps182
    go_wp2
    go_ret
    exact ⟨rfl, rfl⟩
  · go_enter Tryz.func182, Tryz.ntmps182
    go_wp2
    go_ret
    exact ⟨rfl, rfl⟩
theorem format1_any (n : Int) (w : World) (h : n = 0 ∨ n = 1) : Calls Tryz.prog 147 #[.int .i64 n, .int .i64 10] w fun e w' => e = .returned (sOf [if n = 0 then 48 else 49]) ∧ w = w' := by
  have HS := Lib.hid (small_any n w h)
  rcases h with rfl | rfl
  · go_enter Tryz.func147, Tryz.ntmps147
    go_wp2_with fail
    refine HS.out.mono ?_
    rintro e w1 ⟨rfl, rfl⟩
    go_wp2
    go_ret
    exact ⟨rfl, rfl⟩
  · go_enter Tryz.func147, Tryz.ntmps147
    go_wp2_with fail
    refine HS.out.mono ?_
    rintro e w1 ⟨rfl, rfl⟩
    go_wp2
    go_ret
    exact ⟨rfl, rfl⟩
theorem format_any (n : Int) (w : World) (h : n = 0 ∨ n = 1) : Calls Tryz.prog 113 #[.int .i64 n, .int .i64 10] w fun e w' => e = .returned (sOf [if n = 0 then 48 else 49]) ∧ w = w' := by
  have HS := Lib.hid (format1_any n w h)
  rcases h with rfl | rfl
  · go_enter Tryz.func113, Tryz.ntmps113
    go_wp2_with fail
    refine HS.out.mono ?_
    rintro e w1 ⟨rfl, rfl⟩
    go_wp2
    go_ret
    exact ⟨rfl, rfl⟩
  · go_enter Tryz.func113, Tryz.ntmps113
    go_wp2_with fail
    refine HS.out.mono ?_
    rintro e w1 ⟨rfl, rfl⟩
    go_wp2
    go_ret
    exact ⟨rfl, rfl⟩
theorem format_lit (n : Int) (w : World) (h : n = 0 ∨ n = 1) : Calls Tryz.prog 113 #[.int .i64 n, .int .i64 10] w fun e w' => e = .returned (.string { data := #[if n = 0 then 48 else 49] }) ∧ w = w' := format_any n w h

set_option maxRecDepth 100000 in
theorem rtext_0 (w : World) : Calls Tryz.prog 112 #[.agg #[Ii 1, Ii 0]] w fun e w' => e = .returned (.string { data := #[49, 32, 48] }) ∧ Below w.heap.size w w' := by
  obtain ⟨V, hV⟩ : ∃ V, V = w.alloc (.cells #[Ii 1, Ii 0] 30) := ⟨_, rfl⟩
  have hb : Below w.heap.size w V := by rw [hV]; exact (Below.refl _ w).alloc (Nat.le_refl _) _
  have k : V.heap[w.heap.size]? = some (.cells #[Ii 1, Ii 0] 30 (0, 0)) := by rw [hV]; exact block_alloc_new w _
  have HB := Lib.hid hb
  have c0 := cell_of (o := 0) (v := Ii 1) k rfl
  have c1 := cell_of (o := 1) (v := Ii 0) k rfl
  clear hb k
  go_enter Tryz.func112, Tryz.ntmps112
  go_upto_region 1 with fail
  rw [← hV]
  clear hV
  go_quiet ((go_at_call 113; exact Calls.mono (format_lit _ _ (by first | exact Or.inl rfl | exact Or.inr rfl)) (fun _ _ h => ⟨h.1, _, h.2.symm⟩)))
  trace_state
  go_wp2
  go_ret
  exact ⟨rfl, below_drewN HB.out _⟩
set_option maxRecDepth 100000 in
theorem rtext_1 (w : World) : Calls Tryz.prog 112 #[.agg #[Ii 1, Ii 1]] w fun e w' => e = .returned (.string { data := #[49, 32, 49] }) ∧ Below w.heap.size w w' := by
  obtain ⟨V, hV⟩ : ∃ V, V = w.alloc (.cells #[Ii 1, Ii 1] 30) := ⟨_, rfl⟩
  have hb : Below w.heap.size w V := by rw [hV]; exact (Below.refl _ w).alloc (Nat.le_refl _) _
  have k : V.heap[w.heap.size]? = some (.cells #[Ii 1, Ii 1] 30 (0, 0)) := by rw [hV]; exact block_alloc_new w _
  have HB := Lib.hid hb
  have c0 := cell_of (o := 0) (v := Ii 1) k rfl
  have c1 := cell_of (o := 1) (v := Ii 1) k rfl
  clear hb k
  go_enter Tryz.func112, Tryz.ntmps112
  go_upto_region 1 with fail
  rw [← hV]
  clear hV
  go_quiet ((go_at_call 113; exact Calls.mono (format_lit _ _ (by first | exact Or.inl rfl | exact Or.inr rfl)) (fun _ _ h => ⟨h.1, _, h.2.symm⟩)))
  trace_state
  go_wp2
  go_ret
  exact ⟨rfl, below_drewN HB.out _⟩
theorem rtext_any (y : Int) (w : World) (h : y = 0 ∨ y = 1) : Calls Tryz.prog 112 #[.agg #[Ii 1, Ii y]] w fun e w' => e = .returned (.string { data := #[49, 32, if y = 0 then 48 else 49] }) ∧ Below w.heap.size w w' := by
  rcases h with rfl | rfl
  · exact rtext_0 w
  · exact rtext_1 w

set_option maxRecDepth 100000 in
theorem text04_any (w : World) : Calls Tryz.prog 85 #[.agg #[Ii 1, Ii 0, Ii 1, Ii 1]] w fun e w' => e = .returned (.string { data := #[49, 32, 48, 44, 49, 32, 49] }) ∧ Below w.heap.size w w' := by
  obtain ⟨V, hV⟩ : ∃ V, V = w.alloc (.cells #[Ii 1, Ii 0, Ii 1, Ii 1] 32) := ⟨_, rfl⟩
  have hb : Below w.heap.size w V := by rw [hV]; exact (Below.refl _ w).alloc (Nat.le_refl _) _
  have k : V.heap[w.heap.size]? = some (.cells #[Ii 1, Ii 0, Ii 1, Ii 1] 32 (0, 0)) := by rw [hV]; exact block_alloc_new w _
  have HB := Lib.hid hb
  have c0 := cell_of (o := 0) (v := Ii 1) k rfl
  have c1 := cell_of (o := 1) (v := Ii 0) k rfl
  have c2 := cell_of (o := 2) (v := Ii 1) k rfl
  have c3 := cell_of (o := 3) (v := Ii 1) k rfl
  have z0 := fun y : Ext V => Ext.cell c0 y
  have z1 := fun y : Ext V => Ext.cell c1 y
  have z2 := fun y : Ext V => Ext.cell c2 y
  have z3 := fun y : Ext V => Ext.cell c3 y
  have HT := Lib.hid (fun (x : Ext V) (y : Int) (h : y = 0 ∨ y = 1) => x.calls (rtext_any y x.w h))
  clear hb k c0 c1 c2 c3
  go_enter Tryz.func85, Tryz.ntmps85
  go_upto_region 1 with fail
  rw [← hV]
  clear hV
  refine wp_region_quiet_class (fun X => ∃ y : Ext V, X = y.w) (by kernel_rfl) (by kernel_rfl) ⟨Ext.drew V, rfl⟩ ?_
  repeat (go_big_quiet_step ((go_at_call 112; exact HT.out _ _ (by first | exact Or.inl rfl | exact Or.inr rfl))))
  refine wpQuiet_nil ?_
  rintro _ ⟨y, rfl⟩
  go_wp2
  go_ret
  exact ⟨rfl, HB.out.trans (y.b.mono HB.out.size)⟩
end Go.Proofs.YticconhcphocbaaGreatDoor
