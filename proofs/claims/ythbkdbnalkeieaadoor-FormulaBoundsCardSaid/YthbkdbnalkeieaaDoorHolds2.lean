/- The walks of what says hands back; holds. -/
import Derived.Test.YthbkdbnalkeieaaDoorHolds
import Derived.Test.YthbkdbnalkeieaaDoorApp
import Derived.Maps.AppendAt
import Derived.RangeFuncBox
namespace Go.Proofs.YthbkdbnalkeieaaDoor
open Go.RowKit Go.Sort Go.Shelf

def bin (op : Int) (x y : Bool) : Bool := if op = 3 then x && y else if op = 4 then x && !y else if op = 5 then x != y else x || y

set_option maxHeartbeats 1000000 in
theorem not_any (b cap : Nat) (x : Bool) (w : World) (c0 : w.cell? ⟨b, 0, none⟩ = some (.bool x)) :
    Calls Tryd.prog 63 #[.slice (some ⟨b, 0, none⟩) 1 cap] w fun e w' => e = .returned (.bool (!x)) ∧ Below w.heap.size w w' := by
  go_enter Tryd.func63, Tryd.ntmps63
  go_wp2
  go_ret
  exact ⟨rfl, Below.refl _ _⟩
set_option maxHeartbeats 1000000 in
theorem and_any (b cap : Nat) (x y : Bool) (w : World) (c0 : w.cell? ⟨b, 0, none⟩ = some (.bool x)) (c1 : w.cell? ⟨b, 1, none⟩ = some (.bool y)) :
    Calls Tryd.prog 64 #[.slice (some ⟨b, 0, none⟩) 2 cap] w fun e w' => e = .returned (.bool (x && y)) ∧ Below w.heap.size w w' := by
  cases x
  all_goals
    go_enter Tryd.func64, Tryd.ntmps64
    go_wp2
    go_ret
    exact ⟨rfl, Below.refl _ _⟩
set_option maxHeartbeats 1000000 in
theorem minus_any (b cap : Nat) (x y : Bool) (w : World) (c0 : w.cell? ⟨b, 0, none⟩ = some (.bool x)) (c1 : w.cell? ⟨b, 1, none⟩ = some (.bool y)) :
    Calls Tryd.prog 65 #[.slice (some ⟨b, 0, none⟩) 2 cap] w fun e w' => e = .returned (.bool (x && !y)) ∧ Below w.heap.size w w' := by
  cases x
  all_goals
    go_enter Tryd.func65, Tryd.ntmps65
    go_wp2
    go_ret
    exact ⟨rfl, Below.refl _ _⟩
set_option maxHeartbeats 1000000 in
theorem xor_any (b cap : Nat) (x y : Bool) (w : World) (c0 : w.cell? ⟨b, 0, none⟩ = some (.bool x)) (c1 : w.cell? ⟨b, 1, none⟩ = some (.bool y)) :
    Calls Tryd.prog 66 #[.slice (some ⟨b, 0, none⟩) 2 cap] w fun e w' => e = .returned (.bool (x != y)) ∧ Below w.heap.size w w' := by
  go_enter Tryd.func66, Tryd.ntmps66
  go_wp2_with fail
  go_quiet (fail)
  go_wp2
  go_ret
  exact ⟨rfl, ⟨rfl, rfl, rfl, Nat.le_refl _, fun _ _ => rfl⟩⟩
set_option maxHeartbeats 1000000 in
theorem or_any (b cap : Nat) (x y : Bool) (w : World) (c0 : w.cell? ⟨b, 0, none⟩ = some (.bool x)) (c1 : w.cell? ⟨b, 1, none⟩ = some (.bool y)) :
    Calls Tryd.prog 67 #[.slice (some ⟨b, 0, none⟩) 2 cap] w fun e w' => e = .returned (.bool (x || y)) ∧ Below w.heap.size w w' := by
  cases x
  all_goals
    go_enter Tryd.func67, Tryd.ntmps67
    go_wp2
    go_ret
    exact ⟨rfl, Below.refl _ _⟩

theorem u16_and_one (a : Nat) (ha : a < 65536) : bits .and .u16 (a : Int) 1 = ((a % 2 : Nat) : Int) := by
  show IntKind.u16.wrap ((BitVec.ofInt 16 (a : Int) &&& BitVec.ofInt 16 1).toNat : Int) = _
  have h1 : (BitVec.ofInt 16 (a : Int)).toNat = a := by rw [BitVec.ofInt_natCast, BitVec.toNat_ofNat]; exact Nat.mod_eq_of_lt (by omega)
  have h2 : (BitVec.ofInt 16 1).toNat = 1 := by decide
  rw [BitVec.toNat_and, h1, h2, Nat.and_one_is_mod, IntKind.wrap_u16]
  omega
theorem bit_at (m k : Nat) (hm : m < 65536) : (bits .and .u16 ((m : Int) / 2 ^ k) 1 == 1) = m.testBit k := by
  have e : ((m : Int) / 2 ^ k) = ((m / 2 ^ k : Nat) : Int) := by simp
  have hlt : m / 2 ^ k < 65536 := Nat.lt_of_le_of_lt (Nat.div_le_self _ _) hm
  rw [e, u16_and_one _ hlt]
  rw [Nat.testBit_eq_decide_div_mod_eq]
  rw [Bool.eq_iff_iff]
  simp
  omega

set_option maxHeartbeats 1000000 in
set_option maxRecDepth 100000 in
theorem holds_layer (la : Int) (m : Nat) (w : World) (h0 : 0 ≤ la) (h1 : la < 16) (hm : m < 65536) (p : Option Addr) (n cap : Nat) :
    Calls Tryd.prog 38 #[.agg #[.int .i64 1, .int .i64 la, .slice p n cap], .int .u16 m] w fun e w' => e = .returned (.bool (m.testBit la.toNat)) ∧ Below w.heap.size w w' := by
  obtain ⟨k, rfl⟩ : ∃ k : Nat, la = k := ⟨la.toNat, by omega⟩
  go_enter Tryd.func38, Tryd.ntmps38
  go_wp2
  go_ret
  refine ⟨?_, (Below.refl _ w).alloc (Nat.le_refl _) _⟩
  rw [bit_at m k hm]
  rfl

/-- Is it true of a mask? -/
def hld1 (op la : Int) (m : Nat) (l : List Bool) : Bool :=
  if op = 1 then m.testBit la.toNat else if op = 2 then !(l.headD false) else bin op (l.headD false) ((l.drop 1).headD false)
def hlds (m : Nat) : Fms → List Bool
  | .nil => []
  | .cons op la of r => hld1 op la m (hlds m of) :: hlds m r
def hld (op la : Int) (of : Fms) (m : Nat) : Bool := hld1 op la m (hlds m of)

/-- What Holds answers. -/
def holdsE (op la : Int) (of : Fms) (m : Nat) : Bool := if chk op la of = 0 then hld op la of m else false

theorem Tryd.info4 : (Tryd.prog.info? 4).map (fun i => (i.zero, i.size, i.bytes)) = some (some (.bool false), 1, 1) := by kernel_rfl

def HoldsOk (m : Nat) (op la : Int) (of : Fms) : Prop :=
  ∀ (s : Value) (w : World), meas op la of ≠ none → SlIs w s of → Calls Tryd.prog 38 #[.agg #[.int .i64 op, .int .i64 la, s], .int .u16 m] w fun e w' => e = .returned (.bool (hld op la of m)) ∧ Below w.heap.size w w'

theorem ownsRow_after {w W : World} {B : Nat} {v : Value} {n : Nat} {xs : List Value} (h : w.ownsRow B 4 1 v n xs) (hb : Below w.heap.size w W) : W.ownsRow B 4 1 v n xs := by
  refine ⟨h.1, ?_⟩
  rcases h.2 with e | ⟨k, cap, cur, rfl, hb0, hk, r⟩
  · exact .inl e
  · exact .inr ⟨k, cap, cur, rfl, hb0, (hb.block k (lt_of_block hk)).trans hk, r⟩

theorem says_at2 (W : World) : (Instr.index 94 (.agg saysAll) (.int .i64 2)).run Tryd.prog W = .ok (.func (.func 63) #[] #[]) W := by kernel_rfl
theorem says_at3 (W : World) : (Instr.index 94 (.agg saysAll) (.int .i64 3)).run Tryd.prog W = .ok (.func (.func 64) #[] #[]) W := by kernel_rfl
theorem says_at4 (W : World) : (Instr.index 94 (.agg saysAll) (.int .i64 4)).run Tryd.prog W = .ok (.func (.func 65) #[] #[]) W := by kernel_rfl
theorem says_at5 (W : World) : (Instr.index 94 (.agg saysAll) (.int .i64 5)).run Tryd.prog W = .ok (.func (.func 66) #[] #[]) W := by kernel_rfl
theorem says_at6 (W : World) : (Instr.index 94 (.agg saysAll) (.int .i64 6)).run Tryd.prog W = .ok (.func (.func 67) #[] #[]) W := by kernel_rfl
set_option maxHeartbeats 4000000 in
set_option maxRecDepth 100000 in
theorem holds_not (m : Nat) (la : Int) (o l : Int) (f : Fms) (b off cap : Nat) (w : World) (p1 : Option Addr) (cap1 : Nat) (x : Bool)
    (r0 : w.cell? ⟨b, off, none⟩ = some (In o)) (r1 : w.cell? ⟨b, off + 1, none⟩ = some (In l)) (r2 : w.cell? ⟨b, off + 2, none⟩ = some (.slice p1 f.len cap1))
    (hc : ∀ W, Below w.heap.size w W → Calls Tryd.prog 38 #[.agg #[.int .i64 o, .int .i64 l, .slice p1 f.len cap1], .int .u16 m] W fun e w' => e = .returned (.bool x) ∧ Below W.heap.size W w') :
    Calls Tryd.prog 38 #[.agg #[.int .i64 2, .int .i64 la, .slice (some ⟨b, off, none⟩) 1 cap], .int .u16 m] w fun e w' => e = .returned (.bool (!x)) ∧ Below w.heap.size w w' := by
  obtain ⟨i0, hi, hz0, hz1, hz2⟩ := info_parts Tryd.info4
  have HC := Lib.hid hc
  clear hc
  go_enter Tryd.func38, Tryd.ntmps38
  go_upto_region 4 with fail
  obtain ⟨W, hW⟩ : ∃ W, W = w.alloc (.cells #[.int .i64 2, .int .i64 la, .slice (some ⟨b, off, none⟩) 1 cap] 26) := ⟨_, rfl⟩
  rw [← hW]
  have hblk : W.heap[w.heap.size]? = some (.cells #[.int .i64 2, .int .i64 la, .slice (some ⟨b, off, none⟩) 1 cap] 26 (0, 0)) := by rw [hW]; exact block_alloc_new w _
  have c2 : W.cell? ⟨w.heap.size, 2, none⟩ = some (.slice (some ⟨b, off, none⟩) 1 cap) := cell_of hblk rfl
  have hB : Below w.heap.size w W := by rw [hW]; exact (Below.refl _ w).alloc (Nat.le_refl _) _
  have q0 := (hB.cell (World.block_lt_of_cell? w _ r0)).trans r0
  have q1 := (hB.cell (World.block_lt_of_cell? w _ r1)).trans r1
  have q2 := (hB.cell (World.block_lt_of_cell? w _ r2)).trans r2
  have HB := Lib.hid hB
  have HK := Lib.hid hblk
  clear hW hblk hB r0 r1 r2
  go_wp2_with fail
  refine wp_loop_rounds 2 ?_
  rw [rounds_succ]
  go_wp2_with fail
  have hBa := (Below.refl W.heap.size W).alloc (Nat.le_refl _) (.cells #[.int .i64 o, .int .i64 l, .slice p1 f.len cap1] 26)
  refine (HC.out _ (HB.out.trans (hBa.mono HB.out.size))).mono ?_
  rintro e w1 ⟨rfl, hb1⟩
  have HB1 := Lib.hid (hBa.trans (hb1.mono hBa.size))
  clear hBa hb1
  go_wp2_with (at_builtin; refine wpList_append_or _ rfl _ _ 35 rfl 4 i0 (.bool false) 1 1 Tryd.underlying35 hi hz0 hz1 hz2 rfl (by decide) _ 0 [] rfl (World.ownsRow_nil _ _ _ _) ⟨w1.heap.size, 0, none⟩ 1 1 [.bool x] rfl rfl (cell_one_new _ _ _) ?c2 ?c3 ?c4 ?c5 ?_)
  case c2 => intro u hu; simp at hu; subst hu; rfl
  case c3 => unfold maxLen; omega
  case c4 => omega
  case c5 => omega
  intro v' w2 hown hgrow hnew
  obtain ⟨g, cap', rfl⟩ := ownsRow_succ hown
  have hBt := HB1.out.alloc HB1.out.size (.cells #[.bool x] 4)
  have hB2 : Below W.heap.size W w2 := hBt.grown hgrow hBt.size (by intro k e; cases e)
  have g0 : w2.cell? ⟨g, 0, none⟩ = some (.bool x) := hown.cells rfl 0 (.bool x) (by simp)
  have HB2 := Lib.hid (HB.out.trans (hB2.mono HB.out.size))
  have k0 : w2.cell? ⟨w.heap.size, 0, none⟩ = some (.int .i64 2) := cell_of ((hB2.block _ (lt_of_block HK.out)).trans HK.out) rfl
  clear hown hgrow hnew hBt hB2
  go_wp2
  rw [rounds_succ]
  go_wp2_with fail
  have z0 := fun y : Ext w2 => Ext.cell k0 y
  have z1 := fun y : Ext w2 => Ext.cell g0 y
  refine wp_region_quiet_tail (fun X => ∃ y : Ext w2, X = y.w) 5 (by kernel_rfl) (by kernel_rfl) ⟨Ext.drew w2, rfl⟩ ?_
  simp only [List.take_succ_cons, List.take_zero, List.drop_succ_cons, List.drop_zero]
  have hix := says_at2
  repeat (go_big_quiet_step ((go_at_call 53; exact Ext.calls _ (says_any _))))
  refine wpQuiet_nil ?_
  rintro _ ⟨y, rfl⟩
  go_wp2_with fail
  refine (not_any g cap' x y.w (z1 y)).mono ?_
  rintro e w3 ⟨rfl, hb3⟩
  have hy := HB2.out.trans (y.b.mono HB2.out.size)
  have hB3 := hy.trans (hb3.mono hy.size)
  go_wp2
  go_ret
  exact ⟨rfl, hB3⟩

set_option maxHeartbeats 8000000 in
set_option maxRecDepth 100000 in
theorem holds_bin (m : Nat) (op la : Int) (o l o' l' : Int) (f f' : Fms) (b off cap : Nat) (w : World) (p1 p2 : Option Addr) (cap1 cap2 : Nat) (x x' : Bool) (hop : op = 3 ∨ op = 4 ∨ op = 5 ∨ op = 6)
    (r0 : w.cell? ⟨b, off, none⟩ = some (In o)) (r1 : w.cell? ⟨b, off + 1, none⟩ = some (In l)) (r2 : w.cell? ⟨b, off + 2, none⟩ = some (.slice p1 f.len cap1))
    (r3 : w.cell? ⟨b, off + 3, none⟩ = some (In o')) (r4 : w.cell? ⟨b, off + 3 + 1, none⟩ = some (In l')) (r5 : w.cell? ⟨b, off + 3 + 2, none⟩ = some (.slice p2 f'.len cap2))
    (hc : ∀ W, Below w.heap.size w W → Calls Tryd.prog 38 #[.agg #[.int .i64 o, .int .i64 l, .slice p1 f.len cap1], .int .u16 m] W fun e w' => e = .returned (.bool x) ∧ Below W.heap.size W w')
    (hc' : ∀ W, Below w.heap.size w W → Calls Tryd.prog 38 #[.agg #[.int .i64 o', .int .i64 l', .slice p2 f'.len cap2], .int .u16 m] W fun e w' => e = .returned (.bool x') ∧ Below W.heap.size W w') :
    Calls Tryd.prog 38 #[.agg #[.int .i64 op, .int .i64 la, .slice (some ⟨b, off, none⟩) 2 cap], .int .u16 m] w fun e w' => e = .returned (.bool (bin op x x')) ∧ Below w.heap.size w w' := by
  obtain ⟨i0, hi, hz0, hz1, hz2⟩ := info_parts Tryd.info4
  have g1 : (op == 1) = false := by rcases hop with rfl | rfl | rfl | rfl <;> rfl
  have HC := Lib.hid hc
  have HC' := Lib.hid hc'
  clear hc hc'
  go_enter Tryd.func38, Tryd.ntmps38
  go_upto_region 4 with fail
  obtain ⟨W, hW⟩ : ∃ W, W = w.alloc (.cells #[.int .i64 op, .int .i64 la, .slice (some ⟨b, off, none⟩) 2 cap] 26) := ⟨_, rfl⟩
  rw [← hW]
  have hblk : W.heap[w.heap.size]? = some (.cells #[.int .i64 op, .int .i64 la, .slice (some ⟨b, off, none⟩) 2 cap] 26 (0, 0)) := by rw [hW]; exact block_alloc_new w _
  have c2 : W.cell? ⟨w.heap.size, 2, none⟩ = some (.slice (some ⟨b, off, none⟩) 2 cap) := cell_of hblk rfl
  have hB : Below w.heap.size w W := by rw [hW]; exact (Below.refl _ w).alloc (Nat.le_refl _) _
  have q0 := (hB.cell (World.block_lt_of_cell? w _ r0)).trans r0
  have q1 := (hB.cell (World.block_lt_of_cell? w _ r1)).trans r1
  have q2 := (hB.cell (World.block_lt_of_cell? w _ r2)).trans r2
  have q3 := (hB.cell (World.block_lt_of_cell? w _ r3)).trans r3
  have q4 := (hB.cell (World.block_lt_of_cell? w _ r4)).trans r4
  have q5 := (hB.cell (World.block_lt_of_cell? w _ r5)).trans r5
  have HB := Lib.hid hB
  have HK := Lib.hid hblk
  clear hW hblk hB r0 r1 r2 r3 r4 r5
  go_wp2_with fail
  refine wp_loop_rounds 3 ?_
  rw [rounds_succ]
  go_wp2_with fail
  have hBa := (Below.refl W.heap.size W).alloc (Nat.le_refl _) (.cells #[.int .i64 o, .int .i64 l, .slice p1 f.len cap1] 26)
  refine (HC.out _ (HB.out.trans (hBa.mono HB.out.size))).mono ?_
  rintro e w1 ⟨rfl, hb1⟩
  have HB1 := Lib.hid (hBa.trans (hb1.mono hBa.size))
  clear hBa hb1
  go_wp2_with (at_builtin; refine wpList_append_or _ rfl _ _ 35 rfl 4 i0 (.bool false) 1 1 Tryd.underlying35 hi hz0 hz1 hz2 rfl (by decide) _ 0 [] rfl (World.ownsRow_nil _ _ _ _) ⟨w1.heap.size, 0, none⟩ 1 1 [.bool x] rfl rfl (cell_one_new _ _ _) ?c2 ?c3 ?c4 ?c5 ?_)
  case c2 => intro u hu; simp at hu; subst hu; rfl
  case c3 => unfold maxLen; omega
  case c4 => omega
  case c5 => omega
  intro v' w2 hown hgrow hnew
  obtain ⟨g, cap', rfl⟩ := ownsRow_succ hown
  have hBt := HB1.out.alloc HB1.out.size (.cells #[.bool x] 4)
  have hB2 : Below W.heap.size W w2 := hBt.grown hgrow hBt.size (by intro k e; cases e)
  have hgW : W.heap.size ≤ g := by
    rcases hnew with e | e
    · cases e
    · have h1 := e g rfl
      have h2 := HB1.out.size
      have h3 : w1.heap.size ≤ g := by omega
      omega
  have HB2 := Lib.hid hB2
  have HO2 := Lib.hid hown
  have s3 := (hB2.cell (World.block_lt_of_cell? W _ q3)).trans q3
  have s4 := (hB2.cell (World.block_lt_of_cell? W _ q4)).trans q4
  have s5 := (hB2.cell (World.block_lt_of_cell? W _ q5)).trans q5
  clear hown hgrow hnew hBt hB2 q0 q1 q2 q3 q4 q5
  go_wp2
  rw [rounds_succ]
  go_wp2_with fail
  have hBa := (Below.refl w2.heap.size w2).alloc (Nat.le_refl _) (.cells #[.int .i64 o', .int .i64 l', .slice p2 f'.len cap2] 26)
  have hBw2 := HB2.out.trans (hBa.mono HB2.out.size)
  refine (HC'.out _ (HB.out.trans (hBw2.mono HB.out.size))).mono ?_
  rintro e w3 ⟨rfl, hb3⟩
  have hO3 := ownsRow_after HO2.out (hBa.trans (hb3.mono hBa.size))
  have HB3 := Lib.hid (hBw2.trans (hb3.mono hBw2.size))
  have HO3 := Lib.hid hO3
  clear hBa hb3 hBw2 hO3
  go_wp2_with (at_builtin; refine wpList_append_or _ rfl _ _ 35 rfl 4 i0 (.bool false) 1 1 Tryd.underlying35 hi hz0 hz1 hz2 rfl (by decide) _ (0 + 1) ([] ++ [.bool x]) rfl (HO3.out.alloc _) ⟨w3.heap.size, 0, none⟩ 1 1 [.bool x'] rfl rfl (cell_one_new _ _ _) ?c2 ?c3 ?c4 ?c5 ?_)
  case c2 => intro u hu; simp at hu; subst hu; rfl
  case c3 => unfold maxLen; omega
  case c4 => omega
  case c5 => omega
  intro v' w4 hown hgrow hnew
  obtain ⟨g', cap'', rfl⟩ := ownsRow_succ hown
  have hBt := HB3.out.alloc HB3.out.size (.cells #[.bool x'] 4)
  have hB4 : Below W.heap.size W w4 := hBt.grown hgrow hBt.size (by intro k e; cases e; exact hgW)
  have z0 : w4.cell? ⟨g', 0, none⟩ = some (.bool x) := hown.cells rfl 0 (.bool x) (by simp)
  have z1 : w4.cell? ⟨g', 1, none⟩ = some (.bool x') := hown.cells rfl 1 (.bool x') (by simp)
  have HB4 := Lib.hid (HB.out.trans (hB4.mono HB.out.size))
  have k0 : w4.cell? ⟨w.heap.size, 0, none⟩ = some (.int .i64 op) := cell_of ((hB4.block _ (lt_of_block HK.out)).trans HK.out) rfl
  clear hown hgrow hnew hBt hB4
  go_wp2
  rw [rounds_succ]
  go_wp2_with fail
  have y0 := fun y : Ext w4 => Ext.cell k0 y
  have y1 := fun y : Ext w4 => Ext.cell z0 y
  have y2 := fun y : Ext w4 => Ext.cell z1 y
  have hx3 := says_at3
  have hx4 := says_at4
  have hx5 := says_at5
  have hx6 := says_at6
  refine wp_region_quiet_tail (fun X => ∃ y : Ext w4, X = y.w) 5 (by kernel_rfl) (by kernel_rfl) ⟨Ext.drew w4, rfl⟩ ?_
  simp only [List.take_succ_cons, List.take_zero, List.drop_succ_cons, List.drop_zero]
  rcases hop with rfl | rfl | rfl | rfl
  all_goals
    repeat (go_big_quiet_step ((go_at_call 53; exact Ext.calls _ (says_any _))))
    refine wpQuiet_nil ?_
    rintro _ ⟨y, rfl⟩
    go_wp2_with fail
    first
      | refine (and_any g' cap'' x x' y.w (y1 y) (y2 y)).mono ?_
      | refine (minus_any g' cap'' x x' y.w (y1 y) (y2 y)).mono ?_
      | refine (xor_any g' cap'' x x' y.w (y1 y) (y2 y)).mono ?_
      | refine (or_any g' cap'' x x' y.w (y1 y) (y2 y)).mono ?_
    rintro e w5 ⟨rfl, hb5⟩
    have hy := HB4.out.trans (y.b.mono HB4.out.size)
    have hB5 := hy.trans (hb5.mono hy.size)
    go_wp2
    go_ret
    exact ⟨rfl, hB5⟩

theorem holds_step (m : Nat) (hm : m < 65536) (op la : Int) (of : Fms) (IH : of.All (HoldsOk m)) : HoldsOk m op la of := by
  intro s w hme hs
  obtain ⟨p, cap, rfl⟩ := hs.slice
  rcases ways hme with ⟨rfl, rfl, h2, h3⟩ | ⟨rfl, o, l, f, rfl, hm1⟩ | ⟨h3, h6, o, l, f, o', l', f', rfl, hm1, hm2⟩
  · exact holds_layer la m w h2 h3 hm p _ cap
  · obtain ⟨b, off, e, ⟨s1, r0, r1, r2, hs1⟩, _⟩ := hs.at (i := 0) (by simp [Fms.len])
    subst e
    have hs1' : SlIs w s1 f := hs1
    obtain ⟨p1, cap1, rfl⟩ := hs1'.slice
    exact holds_not m la o l f b off cap w p1 cap1 _ r0 r1 r2 (fun W hb => IH.1 _ W hm1 (hs1'.later hb))
  · obtain ⟨b, off, e, ⟨s1, r0, r1, r2, hs1⟩, ⟨s2, r3, r4, r5, hs2⟩, _⟩ := hs.at (i := 0) (by simp [Fms.len])
    subst e
    have hs1' : SlIs w s1 f := hs1
    have hs2' : SlIs w s2 f' := hs2
    obtain ⟨p1, cap1, rfl⟩ := hs1'.slice
    obtain ⟨p2, cap2, rfl⟩ := hs2'.slice
    refine (holds_bin m op la o l o' l' f f' b off cap w p1 p2 cap1 cap2 _ _ (by omega) r0 r1 r2 r3 r4 r5 (fun W hb => IH.1 _ W hm1 (hs1'.later hb)) (fun W hb => IH.2.1 _ W hm2 (hs2'.later hb))).mono ?_
    rintro e w' ⟨rfl, hb⟩
    refine ⟨?_, hb⟩
    have n1 : ¬ op = 1 := by omega
    have n2 : ¬ op = 2 := by omega
    unfold hld
    simp [hld1, hlds, n1, n2]
theorem holds_any (m : Nat) (hm : m < 65536) (op la : Int) (of : Fms) : HoldsOk m op la of := holds_step m hm op la of (Fms.all_of (holds_step m hm) of)
#print axioms holds_any

set_option maxHeartbeats 1000000 in
set_option maxRecDepth 100000 in
theorem Holds_any (m : Nat) (hm : m < 65536) (op la : Int) (of : Fms) (s : Value) (w : World) (hsz : of.size < 1000000000000) (hs : SlIs w s of) :
    Calls Tryd.prog 17 #[.agg #[.int .i64 op, .int .i64 la, s], .int .u16 m] w fun e w' => e = .returned (.tuple #[.bool (holdsE op la of m), .int .i64 (chk op la of)]) ∧ Below w.heap.size w w' := by
  obtain ⟨p, cap, rfl⟩ := hs.slice
  have hB : Below w.heap.size w (w.alloc (.cells #[.int .i64 op, .int .i64 la, .slice p of.len cap] 26)) := (Below.refl _ w).alloc (Nat.le_refl _) _
  have HB := Lib.hid hB
  have HS := Lib.hid hs
  have hblk := block_alloc_new w (.cells #[.int .i64 op, .int .i64 la, .slice p of.len cap] 26)
  have HK := Lib.hid hblk
  clear hB hs hblk
  go_enter Tryd.func17, Tryd.ntmps17
  go_wp2_with fail
  refine (check_any op la of _ _ hsz (HS.out.later HB.out)).mono ?_
  rintro e w1 ⟨rfl, hb1⟩
  have hblk1 := (hb1.block _ (lt_of_block HK.out)).trans HK.out
  have c0 : w1.cell? ⟨w.heap.size, 0, none⟩ = some (.int .i64 op) := cell_of hblk1 rfl
  have c1 : w1.cell? ⟨w.heap.size, 1, none⟩ = some (.int .i64 la) := cell_of hblk1 rfl
  have c2 : w1.cell? ⟨w.heap.size, 2, none⟩ = some (.slice p of.len cap) := cell_of hblk1 rfl
  have HB1 := Lib.hid (HB.out.trans (hb1.mono HB.out.size))
  clear hb1 hblk1
  by_cases h0 : chk op la of = 0
  · have h0' : (chk op la of == 0) = true := by rw [h0]; rfl
    have h0'' : (chk op la of != 0) = false := by rw [h0]; rfl
    go_wp2_with fail
    refine (holds_any m hm op la of _ _ (chk_zero h0) (HS.out.later HB1.out)).mono ?_
    rintro e w2 ⟨rfl, hb2⟩
    go_wp2
    go_ret2
    refine ⟨?_, HB1.out.trans (hb2.mono HB1.out.size)⟩
    unfold holdsE
    rw [if_pos h0]
    first | rfl | (rw [h0]; rfl)
  · have h0' : (chk op la of == 0) = false := beq_eq_false_iff_ne.2 h0
    have h0'' : (chk op la of != 0) = true := by rw [bne_iff_ne]; exact h0
    go_wp2
    go_ret2
    refine ⟨?_, HB1.out⟩
    unfold holdsE
    rw [if_neg h0]
    rfl

set_option maxHeartbeats 1000000 in
set_option maxRecDepth 100000 in
theorem Wide_any (op la : Int) (of : Fms) (s : Value) (w : World) (hsz : of.size < 1000000000000) (hs : SlIs w s of) :
    Calls Tryd.prog 27 #[.agg #[.int .i64 op, .int .i64 la, s]] w fun e w' => e = .returned (.tuple #[.bool (holdsE op la of 0), .int .i64 (chk op la of)]) ∧ Below w.heap.size w w' := by
  obtain ⟨p, cap, rfl⟩ := hs.slice
  have hB : Below w.heap.size w (w.alloc (.cells #[.int .i64 op, .int .i64 la, .slice p of.len cap] 26)) := (Below.refl _ w).alloc (Nat.le_refl _) _
  have HB := Lib.hid hB
  have HS := Lib.hid hs
  clear hB hs
  go_enter Tryd.func27, Tryd.ntmps27
  go_wp2_with fail
  refine (Holds_any 0 (by decide) op la of _ _ hsz (HS.out.later HB.out)).mono ?_
  rintro e w1 ⟨rfl, hb1⟩
  go_wp2
  go_ret2
  exact ⟨rfl, HB.out.trans (hb1.mono HB.out.size)⟩
#print axioms Wide_any
end Go.Proofs.YthbkdbnalkeieaaDoor
