/- The walk of works: it answers true. -/
import Derived.Test.YtnaeiffaabeokaaOwn
namespace Go.Proofs.Ytnaeiffaabeokaa
open Go.RowKit Go.Sort

theorem below_of {n : Nat} {w W : World} (hn : n ≤ w.heap.size) (h : Chg (fun k => n ≤ k) w W) : Below n w W := h.below (fun _ _ h => h) hn

set_option maxHeartbeats 4000000 in
set_option maxRecDepth 100000 in
theorem works_any (w : World) : Calls Try.prog 4 #[] w fun e w' => e = .returned (.bool true) ∧ Below w.heap.size w w' := by
  go_enter Try.func4, Try.ntmps4
  go_wp2_with fail
  refine (new_ar (fun k => w.heap.size ≤ k) 3 (by decide) (by decide) w (fun _ h => h)).mono ?_
  rintro e w1 ⟨a, rfl, hA1, hb1, ha1⟩
  have HA1 := Lib.hid hA1
  have HB1 := Lib.hid hb1
  clear hA1 hb1
  go_wp2_with fail
  refine (take_ar (fun k => w.heap.size ≤ k) a 3 0 0 [] w1 HA1.out (by decide) (fun k h => Nat.le_trans HB1.out.size h)).mono ?_
  rintro e w2 ⟨hC2, ⟨p, h2, rfl, r1, r2, r3, r4, hA2, r5⟩ | ⟨rfl, r1, _⟩⟩
  rotate_left
  · exact absurd (r1 0 (by decide) (by decide)) (by decide)
  obtain rfl : p = 0 := by
    by_cases h : 0 < p
    · exact absurd (r4 0 (by decide) h) (by decide)
    · omega
  have HA2 := Lib.hid hA2
  have HB2 := Lib.hid (HB1.out.trans (below_of HB1.out.size hC2))
  clear r1 r2 r3 r4 r5 hA2 hC2
  go_wp2_with fail
  refine (take_ar (fun k => w.heap.size ≤ k) a 3 h2 0 ([] ++ [0]) w2 HA2.out (by decide) (fun k h => Nat.le_trans HB2.out.size h)).mono ?_
  rintro e w3 ⟨hC3, ⟨q, h3, rfl, r1, r2, r3, r4, hA3, r5⟩ | ⟨rfl, r1, _⟩⟩
  rotate_left
  · exact absurd (r1 1 (by decide) (by decide)) (by decide)
  obtain rfl : q = 1 := by
    by_cases h : 1 < q
    · exact absurd (r4 1 (by decide) h) (by decide)
    · by_cases h0 : q = 0
      · subst h0; exact absurd (by decide) r1
      · omega
  have HA3 := Lib.hid hA3
  have HB3 := Lib.hid (HB2.out.trans (below_of HB2.out.size hC3))
  clear r1 r2 r3 r4 r5 hA3 hC3
  go_wp2_with fail
  refine (give_ar (fun k => w.heap.size ≤ k) a 3 h3 0 0 ([] ++ [0] ++ [1]) w3 HA3.out (by decide) (by decide) (fun k h => Nat.le_trans HB3.out.size h)).mono ?_
  rintro e w4 ⟨rfl, hC4, ⟨r1, _⟩ | ⟨_, _, hA4⟩⟩
  · exact absurd (by decide) r1
  have e4 : (giveE 3 ([] ++ [0] ++ [1]) 0) = 0 := by decide
  rw [e4]
  have HA4 := Lib.hid hA4
  have HB4 := Lib.hid (HB3.out.trans (below_of HB3.out.size hC4))
  clear hA4 hC4
  go_wp2_with fail
  refine (take_ar (fun k => w.heap.size ≤ k) a 3 h3 1 (([] ++ [0] ++ [1] : List Int).filter fun y => !(y == 0)) w4 HA4.out (by decide) (fun k h => Nat.le_trans HB4.out.size h)).mono ?_
  rintro e w5 ⟨hC5, ⟨r, h5, rfl, r1, r2, r3, r4, hA5, r5⟩ | ⟨rfl, r1, _⟩⟩
  rotate_left
  · exact absurd (r1 0 (by decide) (by decide)) (by decide)
  obtain rfl : r = 0 := by
    by_cases h : 0 < r
    · exact absurd (r4 0 (by decide) h) (by decide)
    · omega
  have HA5 := Lib.hid (show Ar (fun k => w.heap.size ≤ k) w5 a 3 h5 1 [1, 0] from hA5)
  have HB5 := Lib.hid (HB4.out.trans (below_of HB4.out.size hC5))
  clear r1 r2 r3 r4 r5 hA5 hC5
  go_wp2_with fail
  refine (top_ar (fun k => w.heap.size ≤ k) a 3 h5 1 [1, 0] w5 HA5.out).mono ?_
  rintro e w6 ⟨t, rfl, ht, hb6⟩
  obtain rfl : t = 2 := by
    rcases ht with ⟨h, _⟩ | ⟨⟨x, hx, rfl⟩, hm⟩
    · cases h
    · have := hm 1 (by decide)
      simp at hx
      omega
  have HA6 := Lib.hid (HA5.out.later hb6)
  have HB6 := Lib.hid (HB5.out.trans (hb6.mono HB5.out.size))
  clear ht hb6
  go_wp2_with fail
  refine (give_ar (fun k => w.heap.size ≤ k) a 3 h5 2 1 [1, 0] w6 HA6.out (by decide) (by decide) (fun k h => Nat.le_trans HB6.out.size h)).mono ?_
  rintro e w7 ⟨rfl, hC7, ⟨_, hA7⟩ | ⟨r1, _⟩⟩
  rotate_left
  · exact absurd r1 (by decide)
  have e7 : (giveE 3 [1, 0] 2) = 5 := by decide
  rw [e7]
  have HA7 := Lib.hid hA7
  have HB7 := Lib.hid (HB6.out.trans (below_of HB6.out.size hC7))
  clear hA7 hC7
  go_wp2_with fail
  refine (claim_ar (fun k => w.heap.size ≤ k) a 3 h5 1 1 [1, 0] w7 HA7.out (by decide) (by decide) (by decide) (fun k h => Nat.le_trans HB7.out.size h)).mono ?_
  rintro e w8 ⟨rfl, hC8, ⟨_, hA8⟩ | ⟨r1, _⟩⟩
  rotate_left
  · exact absurd r1 (by decide)
  have e8 : (claimE 3 [1, 0] 1) = 210 := by decide
  rw [e8]
  have HA8 := Lib.hid hA8
  have HB8 := Lib.hid (HB7.out.trans (below_of HB7.out.size hC8))
  clear hA8 hC8
  go_wp2_with fail
  refine (new_bad w8).mono ?_
  rintro e w9 ⟨rfl, rfl⟩
  go_wp2_with fail
  refine (give_ar (fun k => w.heap.size ≤ k) a 3 h5 3 1 [1, 0] w8 HA8.out (by decide) (by decide) (fun k h => Nat.le_trans HB8.out.size h)).mono ?_
  rintro e w10 ⟨rfl, hC10, _⟩
  have e10 : (giveE 3 [1, 0] 3) = 4 := by decide
  rw [e10]
  have HB10 := Lib.hid (HB8.out.trans (below_of HB8.out.size hC10))
  clear hC10
  have hnum := num_any
  go_wp2_with (refine (num_any _ _).mono ?_; rintro e w' ⟨rfl, rfl⟩)
  go_ret
  exact ⟨rfl, HB10.out⟩
#print axioms works_any
end Go.Proofs.Ytnaeiffaabeokaa
