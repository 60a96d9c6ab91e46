/- The walks of the laws' own helpers: of, same. -/
import Derived.Test.YthbkdbnalkeieaaDoorWorks
import Derived.Test.YthbkdbnalkeieaaDoorLeft
import Derived.Test.YthbkdbnalkeieaaDoorArgs
namespace Go.Proofs.YthbkdbnalkeieaaDoor
open Go.RowKit Go.Sort Go.Shelf

/-- A row of two. -/
def two (oa la : Int) (FA : Fms) (ob lb : Int) (FB : Fms) : Fms := .cons oa la FA (.cons ob lb FB .nil)
theorem two_len (oa la : Int) (FA : Fms) (ob lb : Int) (FB : Fms) : (two oa la FA ob lb FB).len = 2 := rfl
theorem hld_two (op oa la : Int) (FA : Fms) (ob lb : Int) (FB : Fms) (m : Nat) (h1 : op ≠ 1) (h2 : op ≠ 2) : hld op 0 (two oa la FA ob lb FB) m = bin op (hld oa la FA m) (hld ob lb FB m) := by
  simp [hld, two, hlds, hld1, h1, h2]
theorem hld_not (oa la : Int) (FA : Fms) (m : Nat) : hld 2 0 (.cons oa la FA .nil) m = !(hld oa la FA m) := by
  simp [hld, hlds, hld1]

theorem two_at {w : World} {k : Nat} {oa la ob lb : Int} {FA FB : Fms} {sa sb : Value} (h : w.heap[k]? = some (.cells #[In oa, In la, sa, In ob, In lb, sb] 26 (0, 0))) (ha : SlIs w sa FA) (hb : SlIs w sb FB) (cap : Nat) :
    SlIs w (.slice (some ⟨k, 0, none⟩) 2 cap) (two oa la FA ob lb FB) :=
  .inr ⟨k, 0, cap, rfl, ⟨sa, cell_of h rfl, cell_of h rfl, cell_of h rfl, ha⟩, ⟨sb, cell_of h rfl, cell_of h rfl, cell_of h rfl, hb⟩, trivial⟩

set_option maxHeartbeats 2000000 in
set_option maxRecDepth 100000 in
theorem of_any (op oa la ob lb : Int) (FA FB : Fms) (sa sb : Value) (w : World) (ha : SlIs w sa FA) (hb : SlIs w sb FB) :
    Calls Tryd.prog 20 #[.int .i64 op, .agg #[.int .i64 oa, .int .i64 la, sa], .agg #[.int .i64 ob, .int .i64 lb, sb]] w fun e w' =>
      (∃ s, e = .returned (.agg #[.int .i64 op, .int .i64 0, s]) ∧ SlIs w' s (two oa la FA ob lb FB)) ∧ Below w.heap.size w w' := by
  obtain ⟨p, cap, rfl⟩ := ha.slice
  obtain ⟨q, caq, rfl⟩ := hb.slice
  have HA := Lib.hid ha
  have HB := Lib.hid hb
  clear ha hb
  go_enter Tryd.func20, Tryd.ntmps20
  go_wp2_with fail
  obtain ⟨b0, hb0⟩ : ∃ b0, b0 = w.heap.size := ⟨_, rfl⟩
  rw [← hb0]
  have hb1 : Below w.heap.size w (w.alloc (.cells #[.int .i64 oa, .int .i64 la, .slice p FA.len cap] 26)) := (Below.refl _ w).alloc (Nat.le_refl _) _
  obtain ⟨W1, hW1⟩ : ∃ W, W = w.alloc (.cells #[.int .i64 oa, .int .i64 la, .slice p FA.len cap] 26) := ⟨_, rfl⟩
  rw [← hW1] at hb1 ⊢
  have s1 : W1.heap.size = b0 + 1 := by rw [hW1, World.size_alloc, hb0]
  obtain ⟨W2, hW2⟩ : ∃ W, W = W1.alloc (.cells #[.int .i64 ob, .int .i64 lb, .slice q FB.len caq] 26) := ⟨_, rfl⟩
  have hb2 : Below w.heap.size w W2 := by rw [hW2]; exact hb1.alloc (by omega) _
  have s2 : W2.heap.size = b0 + 2 := by rw [hW2, World.size_alloc, s1]
  rw [← hW2]
  obtain ⟨W3, hW3⟩ : ∃ W, W = W2.alloc (.cells #[.int .i64 op, .int .i64 0, .slice (some ⟨b0 + 1 + 1 + 1, 0, none⟩) 2 2] 26) := ⟨_, rfl⟩
  have hb3 : Below w.heap.size w W3 := by rw [hW3]; exact hb2.alloc (by omega) _
  have s3 : W3.heap.size = b0 + 3 := by rw [hW3, World.size_alloc, s2]
  have k3 : W3.heap[b0 + 2]? = some (.cells #[In op, In 0, .slice (some ⟨b0 + 1 + 1 + 1, 0, none⟩) 2 2] 26 (0, 0)) := by rw [hW3, ← s2]; exact block_alloc_new W2 _
  rw [← hW3]
  obtain ⟨W4, hW4⟩ : ∃ W, W = W3.alloc (.cells #[.int .i64 oa, .int .i64 la, .slice p FA.len cap, .int .i64 ob, .int .i64 lb, .slice q FB.len caq] 26) := ⟨_, rfl⟩
  have hb4 : Below w.heap.size w W4 := by rw [hW4]; exact hb3.alloc (by omega) _
  have k4 : W4.heap[b0 + 3]? = some (.cells #[In oa, In la, .slice p FA.len cap, In ob, In lb, .slice q FB.len caq] 26 (0, 0)) := by rw [hW4, ← s3]; exact block_alloc_new W3 _
  have k5 : W4.heap[b0 + 2]? = some (.cells #[In op, In 0, .slice (some ⟨b0 + 1 + 1 + 1, 0, none⟩) 2 2] 26 (0, 0)) := by rw [hW4]; exact block_alloc_old _ k3
  rw [← hW4]
  have u0 := cell_of (o := 0) (v := In op) k5 rfl
  have u1 := cell_of (o := 1) (v := In 0) k5 rfl
  have u2 := cell_of (o := 2) (v := .slice (some ⟨b0 + 1 + 1 + 1, 0, none⟩) 2 2) k5 rfl
  refine ⟨rfl, .agg #[.int .i64 op, .int .i64 0, .slice (some ⟨b0 + 1 + 1 + 1, 0, none⟩) 2 2], ?_, ⟨_, rfl, two_at k4 (HA.out.later hb4) (HB.out.later hb4) 2⟩, by rw [hb0]; exact hb4⟩
  simp [results, Tryd.f20, go_sem, u0, u1, u2]

set_option maxHeartbeats 2000000 in
set_option maxRecDepth 100000 in
theorem same_any (oa la ob lb : Int) (FA FB : Fms) (sa sb : Value) (m : Nat) (hm : m < 65536) (w : World) (ha : SlIs w sa FA) (hb : SlIs w sb FB) (za : FA.size < 1000000000000) (zb : FB.size < 1000000000000)
    (hp : chk oa la FA = 0 → chk ob lb FB = 0 → hld oa la FA m = hld ob lb FB m) :
    Calls Tryd.prog 19 #[.agg #[.int .i64 oa, .int .i64 la, sa], .agg #[.int .i64 ob, .int .i64 lb, sb], .int .u16 m] w fun e w' => e = .returned (.bool true) ∧ Below w.heap.size w w' := by
  obtain ⟨p, cap, rfl⟩ := ha.slice
  obtain ⟨q, caq, rfl⟩ := hb.slice
  obtain ⟨W, hW⟩ : ∃ W, W = (w.alloc (.cells #[.int .i64 oa, .int .i64 la, .slice p FA.len cap] 26)).alloc (.cells #[.int .i64 ob, .int .i64 lb, .slice q FB.len caq] 26) := ⟨_, rfl⟩
  obtain ⟨b0, hb0⟩ : ∃ b0, b0 = w.heap.size := ⟨_, rfl⟩
  have hB : Below w.heap.size w W := by rw [hW]; exact ((Below.refl _ w).alloc (Nat.le_refl _) _).alloc (by simp) _
  have hFA : FormAt W b0 oa la FA p cap := ⟨by rw [hW, hb0]; exact block_alloc_old _ (block_alloc_new w _), ha.later hB⟩
  have hFB : FormAt W (b0 + 1) ob lb FB q caq := ⟨by
    have := block_alloc_new (w.alloc (.cells #[.int .i64 oa, .int .i64 la, .slice p FA.len cap] 26)) (.cells #[.int .i64 ob, .int .i64 lb, .slice q FB.len caq] 26)
    rw [World.size_alloc] at this
    rw [hW, hb0]
    exact this, hb.later hB⟩
  have HB := Lib.hid hB
  have HFA := Lib.hid hFA
  have HFB := Lib.hid hFB
  have HP := Lib.hid hp
  clear ha hb hB hFA hFB hp
  go_enter Tryd.func19, Tryd.ntmps19
  go_upto_region 1 with fail
  rw [← hW, ← hb0]
  clear hW hb0
  obtain ⟨x, hx⟩ : ∃ x, x = chk oa la FA := ⟨_, rfl⟩
  obtain ⟨y, hy⟩ : ∃ y, y = chk ob lb FB := ⟨_, rfl⟩
  obtain ⟨c0, c1, c2⟩ := HFA.out.c
  go_wp2_with fail
  refine (Holds_any m hm oa la FA (.slice p FA.len cap) W za HFA.out.2).mono ?_
  rw [← hx]
  rintro e w1 ⟨rfl, hb1⟩
  have HB1 := Lib.hid (HB.out.trans (hb1.mono HB.out.size))
  have HFB1 := Lib.hid (HFB.out.later hb1)
  clear hb1 c0 c1 c2 HFB HB
  obtain ⟨c0, c1, c2⟩ := HFB1.out.c
  have HX := Lib.hid hx
  clear hx
  go_wp2_with fail
  refine (Holds_any m hm ob lb FB (.slice q FB.len caq) w1 zb HFB1.out.2).mono ?_
  rw [← hy]
  rintro e w2 ⟨rfl, hb2⟩
  have HB2 := Lib.hid (HB1.out.trans (hb2.mono HB1.out.size))
  have HY := Lib.hid hy
  clear hb2 c0 c1 c2 HFB1 HB1 hy
  by_cases h1 : x = 0
  · subst h1
    by_cases h2 : y = 0
    · subst h2
      have hq : holdsE oa la FA m = holdsE ob lb FB m := by
        unfold holdsE
        rw [← HX.out, ← HY.out, if_pos rfl]
        exact HP.out HX.out.symm HY.out.symm
      have HQ := Lib.hid hq
      clear hq
      go_wp2_with (go_at_call 12; refine (num_any _ _).mono ?_; rintro e w3 ⟨rfl, rfl⟩)
      go_ret
      refine ⟨?_, HB2.out⟩
      show Ending.returned (.bool (holdsE oa la FA m == holdsE ob lb FB m)) = _
      rw [HQ.out]
      simp
    · have e2 : (y != 0) = true := by simp [h2]
      clear h2
      go_wp2_with (go_at_call 12; refine (num_any _ _).mono ?_; rintro e w3 ⟨rfl, rfl⟩)
      go_ret
      exact ⟨rfl, HB2.out⟩
  · have e1 : (x != 0) = true := by simp [h1]
    clear h1
    go_wp2_with (go_at_call 12; refine (num_any _ _).mono ?_; rintro e w3 ⟨rfl, rfl⟩)
    go_ret
    exact ⟨rfl, HB2.out⟩
end Go.Proofs.YthbkdbnalkeieaaDoor
