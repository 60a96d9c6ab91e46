/- The chapter's rows. -/
import Derived.Test.YticconhcphocbaaGreatDoorJ19
namespace Go.Proofs.YticconhcphocbaaGreatDoor
open Go.RowKit Go.Sort Go.Shelf

theorem chain {jb : Nat} {w a b : World} (h : Below jb w a) (hj : jb ≤ w.heap.size) (hc : Chg (fun k => k = jb) a b) : Below jb w b :=
  h.trans (hc.below (fun k _ e => by omega) (by have := h.size; omega))
theorem one_lit (w : World) : Calls Tryz.prog 11 #[.int .i64 1] w fun e w' => e = .returned (.agg #[Ii 1, Ii 0, .bool true, Ii 1, Ii 0, Ii 1, Ii 1, .slice none 0 0]) ∧ Below w.heap.size w w' := one_any 1 w
theorem grp_nil (Z : Nat → Prop) (w : World) : Grp Z w (.slice none 0 0) [] := ⟨[], Rw.nil Z w 1, fun i L h => by simp at h⟩

set_option maxHeartbeats 8000000 in
set_option maxRecDepth 100000 in
theorem works_any (w : World) : Calls Tryz.prog 6 #[] w fun e w' => e = .returned (.bool true) ∧ Below w.heap.size w w' := by
  obtain ⟨jb, hjb⟩ : ∃ jb, jb = w.heap.size := ⟨_, rfl⟩
  have hjw : jb ≤ w.heap.size := by omega
  go_enter Tryz.func6, Tryz.ntmps6
  go_wp2_with fail
  refine (new_any w).mono ?_
  rintro e w1 ⟨rfl, hj1, hb1⟩
  rw [← hjb] at hj1 hb1 ⊢
  have HJB := Lib.hid hjb
  have HJ1 := Lib.hid hj1
  have HB1 := Lib.hid hb1
  clear hjb
  clear hj1 hb1
  go_wp2_with fail
  refine (undo_empty jb _ none 0 _ w1 HJ1.out).mono ?_
  rintro e w2 ⟨⟨v2, rfl⟩, hb2⟩
  have HJ2 := Lib.hid (HJ1.out.later hb2)
  have HB2 := Lib.hid (HB1.out.trans (hb2.mono (by have := HB1.out.size; omega)))
  clear hb2 HJ1 HB1
  go_wp2_with fail
  refine (one_lit w2).mono ?_
  rintro e w3 ⟨rfl, hb3⟩
  have HJ3 := Lib.hid (HJ2.out.later hb3)
  have HB3 := Lib.hid (HB2.out.trans (hb3.mono (by have := HB2.out.size; omega)))
  clear hb3 HJ2 HB2
  go_wp2_with fail
  refine (note_shut jb none 0 0 _ _ true 1 w3 HJ3.out (by omega) (by omega)).mono ?_
  rintro e w4 ⟨rfl, hb4⟩
  have HJ4 := Lib.hid (HJ3.out.later hb4)
  have HB4 := Lib.hid (HB3.out.trans (hb4.mono (by have := HB3.out.size; omega)))
  clear hb4 HJ3 HB3
  go_wp2_with fail
  refine (begin_any jb _ _ _ w4 HJ4.out).mono ?_
  rintro e w5 ⟨rfl, hj5, hc5⟩
  have HJ5 := Lib.hid hj5
  have HB5 := Lib.hid (chain HB4.out hjw hc5)
  clear hj5 hc5 HJ4 HB4
  go_wp2_with fail
  refine (begin_open jb _ _ _ w5 HJ5.out).mono ?_
  rintro e w6 ⟨rfl, rfl⟩
  go_wp2_with fail
  refine (one_lit _).mono ?_
  rintro e w7 ⟨rfl, hb7⟩
  have HJ7 := Lib.hid (HJ5.out.later hb7)
  have HB7 := Lib.hid (HB5.out.trans (hb7.mono (by have := HB5.out.size; omega)))
  clear hb7 HJ5 HB5
  go_wp2_with fail
  refine (note_open jb _ _ _ [] true 1 w7 HJ7.out (Rw.nil (fun _ => False) w7 9) (by omega) (by omega) (by simp)).mono ?_
  rintro e w8 ⟨rfl, ⟨s8, hj8, hs8⟩, hc8⟩
  have HJ8 := Lib.hid hj8
  have HS8 := Lib.hid hs8
  have HB8 := Lib.hid (chain HB7.out hjw hc8)
  have h78 := HB7.out.size
  have HZ8 := Lib.hid (show ¬ (w7.heap.size ≤ jb ∧ jb < w8.heap.size) by have := HJ7.out.lt; omega)
  clear hj8 hs8 hc8 HJ7 HB7
  go_wp2_with fail
  refine (end_open jb s8 _ _ [(true, 1)] [] w8 HJ8.out HS8.out (grp_nil _ w8) HZ8.out (by simp) (by simp)).mono ?_
  rintro e w9 ⟨rfl, ⟨d9, hj9, hg9⟩, hc9⟩
  have HJ9 := Lib.hid hj9
  have HG9 := Lib.hid hg9
  have HB9 := Lib.hid (chain HB8.out hjw hc9)
  have HZ9 := Lib.hid (show ¬ ((w7.heap.size ≤ jb ∧ jb < w8.heap.size) ∨ (w8.heap.size ≤ jb ∧ jb < w9.heap.size)) by have := HJ8.out.lt; have := HZ8.out; omega)
  clear hj9 hg9 hc9 HJ8 HB8 HS8
  go_wp2_with fail
  refine (undo_ok jb _ d9 _ [(true, 1)] [] [] w9 HJ9.out HG9.out (grp_nil _ w9) HZ9.out (by simp) (by simp) (by simp)).mono ?_
  rintro e w10 ⟨⟨v10, rfl, hs10⟩, ⟨d10, u10, hj10, hd10, hu10⟩, hc10⟩
  obtain ⟨p10, c10, rfl⟩ : ∃ p c, d10 = .slice p 0 c := by
    obtain ⟨xs, hr, _⟩ := hd10
    exact Rw.slice hr
  have HS10 := Lib.hid hs10
  have HJ10 := Lib.hid hj10
  have HD10 := Lib.hid hd10
  have HU10 := Lib.hid hu10
  have HB10 := Lib.hid (chain HB9.out hjw hc10)
  have HJL := Lib.hid HJ9.out.lt
  clear hs10 hj10 hd10 hu10 hc10 HJ9 HG9 HB9
  have HZ10 := Lib.hid (show ¬ (((w7.heap.size ≤ jb ∧ jb < w8.heap.size) ∨ (w8.heap.size ≤ jb ∧ jb < w9.heap.size)) ∨ (w9.heap.size ≤ jb ∧ jb < w10.heap.size)) by have := HZ9.out; have := HJL.out; omega)
  go_wp2_with fail
  refine (undo_empty jb _ p10 c10 _ w10 HJ10.out).mono ?_
  rintro e w11 ⟨⟨v11, rfl⟩, hb11⟩
  have hs11 : Stp (fun k => k ≠ jb) w11 v10 [(false, 1)] := (Rw.later HS10.out hb11).mono fun k hk e => by have := HJL.out; have := hk.1; omega
  have HS11 := Lib.hid hs11
  have HJ11 := Lib.hid (HJ10.out.later hb11)
  have hg11 : ∀ {Z : Nat → Prop} {v : Value} {K : List (List (Bool × Int))}, Grp Z w10 v K → Grp Z w11 v K := by
    rintro Z v K ⟨xs, hr, he⟩
    exact ⟨xs, Rw.later hr hb11, fun i L hi => by obtain ⟨y, hy, hsy⟩ := he i L hi; exact ⟨y, hy, Rw.later hsy hb11⟩⟩
  have HD11 := Lib.hid (hg11 HD10.out)
  have HU11 := Lib.hid (hg11 HU10.out)
  have HB11 := Lib.hid (HB10.out.trans (hb11.mono (by have := HB10.out.size; omega)))
  clear hb11 hs11 hg11 HS10 HJ10 HD10 HU10 HB10
  go_wp2_with fail
  refine (redo_ok jb _ u10 _ [(true, 1)] [] [] w11 HJ11.out HU11.out HD11.out HZ10.out (by simp) (by simp) (by simp)).mono ?_
  rintro e w12 ⟨⟨v12, rfl, hs12⟩, ⟨d12, u12, hj12, _, _⟩, hc12⟩
  have HS12 := Lib.hid (Rw.keep HS11.out hc12 (fun k hk e => hk e))
  have HT12 := Lib.hid (Rw.mono hs12 (Z' := fun k => k ≠ jb) (fun k hk e => by have := HJ11.out.lt; have := hk.1; omega))
  have HJ12 := Lib.hid hj12
  have HB12 := Lib.hid (chain HB11.out hjw hc12)
  clear hs12 hj12 hc12 HS11 HJ11 HD11 HU11 HB11
  go_wp2_with fail
  refine (begin_any jb _ _ _ w12 HJ12.out).mono ?_
  rintro e w13 ⟨rfl, hj13, hc13⟩
  have HS13 := Lib.hid (Rw.keep HS12.out hc13 (fun k hk e => hk e))
  have HT13 := Lib.hid (Rw.keep HT12.out hc13 (fun k hk e => hk e))
  have HJ13 := Lib.hid hj13
  have HB13 := Lib.hid (chain HB12.out hjw hc13)
  clear hj13 hc13 HS12 HT12 HJ12 HB12
  go_wp2_with fail
  refine (cancel_open jb _ _ _ [] w13 HJ13.out (Rw.nil (fun _ => False) w13 9) (by simp) (by simp)).mono ?_
  rintro e w14 ⟨⟨v14, rfl, hs14⟩, hj14, hc14⟩
  obtain ⟨p14, c14, rfl⟩ : ∃ p c, v14 = .slice p 0 c := Rw.slice hs14
  have HS14 := Lib.hid (Rw.keep HS13.out hc14 (fun k hk e => hk e))
  have HT14 := Lib.hid (Rw.keep HT13.out hc14 (fun k hk e => hk e))
  have HJ14 := Lib.hid hj14
  have HB14 := Lib.hid (chain HB13.out hjw hc14)
  clear hs14 hj14 hc14 HS13 HT13 HJ13 HB13
  go_wp2_with (go_at_call 9; refine (num_any _ _).mono ?_; rintro e wn ⟨rfl, rfl⟩)
  refine (one_lit _).mono ?_
  rintro e w15 ⟨rfl, hb15⟩
  obtain ⟨x15, hx15⟩ : ∃ b, b = w15.heap.size := ⟨_, rfl⟩
  obtain ⟨X15, hX15⟩ : ∃ X, X = w15.alloc (.cells #[.bool false, Ii 1, Ii 0, .bool true, Ii 1, Ii 0, Ii 1, Ii 1, .slice none 0 0] 40) := ⟨_, rfl⟩
  have hbX15 : Below w15.heap.size w15 X15 := by rw [hX15]; exact (Below.refl _ _).alloc (Nat.le_refl _) _
  have hkX15 : X15.heap[x15]? = some (.cells #[.bool false, Ii 1, Ii 0, .bool true, Ii 1, Ii 0, Ii 1, Ii 1, .slice none 0 0] 40 (0, 0)) := by rw [hX15, hx15]; exact block_alloc_new w15 _
  have hlX15 : Stp (fun _ => True) X15 (.slice (some ⟨x15, 0, none⟩) 1 1) [(false, 1)] := ⟨rfl, .inr ⟨x15, 0, 1, rfl, Nat.le_refl _, trivial, fun j u hj => by rw [Nat.zero_add]; exact cell_of hkX15 (by rw [← Array.getElem?_toList]; exact hj)⟩⟩
  have hb14 : Below w14.heap.size w14 X15 := hb15.trans (hbX15.mono hb15.size)
  have HJ15 := Lib.hid (HJ14.out.later hb14)
  have HT15 := Lib.hid (Rw.later HT14.out hb14)
  have HB15 := Lib.hid (HB14.out.trans (hb14.mono (by have := HB14.out.size; omega)))
  have HSS := Lib.hid (sameSteps_one false v10 _ X15 (Rw.later HS14.out hb14) hlX15)
  clear hb14 hb15 hbX15 hkX15 hlX15 HS14 HT14 HJ14 HB14
  go_wp2_with fail
  rw [← hX15, ← hx15]
  clear hX15 hx15
  refine HSS.out.mono ?_
  rintro e w16 ⟨rfl, hb16⟩
  have HJ16 := Lib.hid (HJ15.out.later hb16)
  have HT16 := Lib.hid (Rw.later HT15.out hb16)
  have HB16 := Lib.hid (HB15.out.trans (hb16.mono (by have := HB15.out.size; omega)))
  clear hb16 HJ15 HT15 HB15 HSS
  go_wp2_with fail
  refine (one_lit _).mono ?_
  rintro e w17 ⟨rfl, hb17⟩
  obtain ⟨x17, hx17⟩ : ∃ b, b = w17.heap.size := ⟨_, rfl⟩
  obtain ⟨X17, hX17⟩ : ∃ X, X = w17.alloc (.cells #[.bool true, Ii 1, Ii 0, .bool true, Ii 1, Ii 0, Ii 1, Ii 1, .slice none 0 0] 40) := ⟨_, rfl⟩
  have hbX17 : Below w17.heap.size w17 X17 := by rw [hX17]; exact (Below.refl _ _).alloc (Nat.le_refl _) _
  have hkX17 : X17.heap[x17]? = some (.cells #[.bool true, Ii 1, Ii 0, .bool true, Ii 1, Ii 0, Ii 1, Ii 1, .slice none 0 0] 40 (0, 0)) := by rw [hX17, hx17]; exact block_alloc_new w17 _
  have hlX17 : Stp (fun _ => True) X17 (.slice (some ⟨x17, 0, none⟩) 1 1) [(true, 1)] := ⟨rfl, .inr ⟨x17, 0, 1, rfl, Nat.le_refl _, trivial, fun j u hj => by rw [Nat.zero_add]; exact cell_of hkX17 (by rw [← Array.getElem?_toList]; exact hj)⟩⟩
  have hb16 : Below w16.heap.size w16 X17 := hb17.trans (hbX17.mono hb17.size)
  have HJ17 := Lib.hid (HJ16.out.later hb16)
  have HB17 := Lib.hid (HB16.out.trans (hb16.mono (by have := HB16.out.size; omega)))
  have HSS := Lib.hid (sameSteps_one true v12 _ X17 (Rw.later HT16.out hb16) hlX17)
  clear hb16 hb17 hbX17 hkX17 hlX17 HT16 HJ16 HB16
  go_wp2_with fail
  rw [← hX17, ← hx17]
  clear hX17 hx17
  refine HSS.out.mono ?_
  rintro e w18 ⟨rfl, hb18⟩
  have HJ18 := Lib.hid (HJ17.out.later hb18)
  have HB18 := Lib.hid (HB17.out.trans (hb18.mono (by have := HB17.out.size; omega)))
  clear hb18 HJ17 HB17 HSS
  go_wp2_with fail
  refine (end_shut jb _ _ _ w18 HJ18.out).mono ?_
  rintro e w19 ⟨rfl, rfl⟩
  go_wp2_with fail
  refine (num_any _ _).mono ?_
  rintro e w19 ⟨rfl, rfl⟩
  go_wp2
  go_ret
  exact ⟨rfl, by have := HB18.out; rw [HJB.out] at this; exact this⟩
end Go.Proofs.YticconhcphocbaaGreatDoor
