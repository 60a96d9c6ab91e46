/- The walk of FormulaTexts: it answers true. -/
import Derived.Test.YthbkdbnalkeieaaDoorRound
import Derived.Test.YthbkdbnalkeieaaDoorRText
import Derived.Test.YthbkdbnalkeieaaDoorFSame
import Derived.Test.YthbkdbnalkeieaaDoorLeft
import Derived.Test.YthbkdbnalkeieaaDoorRCheck
namespace Go.Proofs.YthbkdbnalkeieaaDoor
open Go.RowKit Go.Sort Go.Shelf

set_option maxHeartbeats 4000000 in
set_option maxRecDepth 100000 in
theorem texts_any (op la : Int) (of : Fms) (s : Value) (w : World) (hs : SlIs w s of) : Calls Tryd.prog 7 #[.agg #[.int .i64 op, .int .i64 la, s]] w fun e w' => e = .returned (.bool true) ∧ Below w.heap.size w w' := by
  obtain ⟨p, cap, rfl⟩ := hs.slice
  obtain ⟨g1, gb1⟩ := FormAt.new (op := op) (la := la) hs
  obtain ⟨b0, hb0⟩ : ∃ b, b = w.heap.size := ⟨_, rfl⟩
  obtain ⟨W, hW⟩ : ∃ V, V = w.alloc (.cells #[.int .i64 op, .int .i64 la, .slice p of.len cap] 26) := ⟨_, rfl⟩
  rw [← hb0, ← hW] at g1
  rw [← hW] at gb1
  have HB := Lib.hid gb1
  have G := Lib.hid g1
  have HL := Lib.hid (light_any op la of _ W g1.2)
  clear hs gb1 g1
  go_enter Tryd.func7, Tryd.ntmps7
  go_upto_region 1 with fail
  rw [← hW, ← hb0]
  clear hW hb0
  obtain ⟨a0, a1, a2⟩ := G.out.c
  generalize hlt : lightF of = lt at HL
  cases lt with
  | false =>
    clear hlt
    go_wp2_with fail
    refine HL.out.mono ?_
    rintro e w1 ⟨rfl, hb1⟩
    have HB1 := Lib.hid (HB.out.trans (hb1.mono HB.out.size))
    clear hb1 a0 a1 a2
    go_wp2_with fail
    refine (works_any _).mono ?_
    rintro e wz ⟨rfl, hbz⟩
    go_wp2
    go_ret
    exact ⟨rfl, HB1.out.trans (hbz.mono HB1.out.size)⟩
  | true =>
    have hsz := light_size hlt
    clear hlt
    go_wp2_with fail
    refine HL.out.mono ?_
    rintro e w1 ⟨rfl, hb1⟩
    have HB1 := Lib.hid (HB.out.trans (hb1.mono HB.out.size))
    have G1 := Lib.hid (G.out.later hb1)
    clear hb1 a0 a1 a2 HL HB G
    obtain ⟨a0, a1, a2⟩ := G1.out.c
    go_wp2_with fail
    refine (rcheck_any op la of _ _ (by omega) G1.out.2).mono ?_
    rintro e w2 ⟨rfl, hb2⟩
    have HB2 := Lib.hid (HB1.out.trans (hb2.mono HB1.out.size))
    have G2 := Lib.hid (G1.out.later hb2)
    clear hb2 a0 a1 a2 HB1 G1
    obtain ⟨a0, a1, a2⟩ := G2.out.c
    go_wp2_with fail
    refine (Text_any op la of _ _ (by omega) G2.out.2).mono ?_
    rintro e w3 ⟨rfl, hb3⟩
    have HB3 := Lib.hid (HB2.out.trans (hb3.mono HB2.out.size))
    have G3 := Lib.hid (G2.out.later hb3)
    clear hb3 a0 a1 a2 HB2 G2
    obtain ⟨a0, a1, a2⟩ := G3.out.c
    obtain ⟨c, hc⟩ : ∃ c, c = chk op la of := ⟨_, rfl⟩
    have hck := check_any op la of (.slice p of.len cap) w3 (by omega) G3.out.2
    rw [← hc] at hck ⊢
    have HCK := Lib.hid hck
    clear hck
    by_cases h0 : c = 0
    rotate_left
    · have e1 : (c != 0) = true := by simp [h0]
      rw [if_neg h0]
      clear h0 hc
      go_wp2_with fail
      refine HCK.out.mono ?_
      rintro e w4 ⟨rfl, hb4⟩
      have HB4 := Lib.hid (HB3.out.trans (hb4.mono HB3.out.size))
      clear hb4 a0 a1 a2
      go_wp2_with fail
      refine (num_any c _).mono ?_
      rintro e w5 ⟨rfl, rfl⟩
      go_wp2_with fail
      refine (num_any c _).mono ?_
      rintro e w5 ⟨rfl, rfl⟩
      go_wp2_with fail
      refine (works_any _).mono ?_
      rintro e wz ⟨rfl, hbz⟩
      go_wp2
      go_ret
      exact ⟨rfl, HB4.out.trans (hbz.mono HB4.out.size)⟩
    · subst h0
      rw [if_pos rfl]
      have HC := Lib.hid hc
      clear hc
      go_wp2_with fail
      refine HCK.out.mono ?_
      rintro e w4 ⟨rfl, hb4⟩
      have HB4 := Lib.hid (HB3.out.trans (hb4.mono HB3.out.size))
      have G4 := Lib.hid (G3.out.later hb4)
      clear hb4 a0 a1 a2 HB3 G3 HCK
      go_wp2_with fail
      refine (num_any 0 _).mono ?_
      rintro e w5 ⟨rfl, rfl⟩
      go_wp2_with fail
      refine (num_any 0 _).mono ?_
      rintro e w5 ⟨rfl, rfl⟩
      have hp := parse_any (txt op la of) w4
      rw [rd_txt HC.out.symm] at hp
      have HP := Lib.hid hp
      clear hp
      go_wp2_with fail
      refine HP.out.mono ?_
      rintro e w5 ⟨⟨s', rfl, hs'⟩, hb5⟩
      have HB5 := Lib.hid (HB4.out.trans (hb5.mono HB4.out.size))
      have G5 := Lib.hid (G4.out.later hb5)
      obtain ⟨p', cap', rfl⟩ := hs'.is.slice
      obtain ⟨g2, gb2⟩ := FormAt.new (op := op) (la := la) hs'.is
      obtain ⟨b2, hb2⟩ : ∃ b, b = w5.heap.size := ⟨_, rfl⟩
      obtain ⟨V, hV⟩ : ∃ V, V = w5.alloc (.cells #[.int .i64 op, .int .i64 la, .slice p' of.len cap'] 26) := ⟨_, rfl⟩
      rw [← hb2, ← hV] at g2
      rw [← hV] at gb2
      have HB6 := Lib.hid (HB5.out.trans (gb2.mono HB5.out.size))
      have G6 := Lib.hid (G5.out.later gb2)
      have K6 := Lib.hid g2
      clear g2 gb2 hs' hb5 HB5 G5 G4 HB4 HP
      go_upto_region 10 with fail
      rw [← hV, ← hb2]
      clear hV hb2
      have hm : meas op la of ≠ none := by
        obtain ⟨d, n, h, _⟩ := chk_some HC.out.symm
        rw [h]; simp
      obtain ⟨a0, a1, a2⟩ := G6.out.c
      obtain ⟨k0, k1, k2⟩ := K6.out.c
      have HRT := Lib.hid (rtext_any op la of _ V hm (by omega) G6.out.2)
      clear hm
      go_wp2_with fail
      refine HRT.out.mono ?_
      rintro e w7 ⟨rfl, hb7⟩
      have HB7 := Lib.hid (HB6.out.trans (hb7.mono HB6.out.size))
      have G7 := Lib.hid (G6.out.later hb7)
      have K7 := Lib.hid (K6.out.later hb7)
      clear hb7 HB6 G6 K6 a0 a1 a2 k0 k1 k2 HRT
      obtain ⟨a0, a1, a2⟩ := G7.out.c
      obtain ⟨k0, k1, k2⟩ := K7.out.c
      have hsame : sameF op la of op la of = true := (sameF_iff _ _ _ _ _ _).2 ⟨rfl, rfl, rfl⟩
      have hsam2 : sameE op la of op la of = true := by simp [sameE, ← HC.out, hsame]
      have hr := rsame_any op la of op la of _ _ w7 (by omega) K7.out.2 G7.out.2
      rw [hsame] at hr
      have HR := Lib.hid hr
      have hf := fun X (hX : Below w7.heap.size w7 X) => Same_any op la of op la of _ _ X (by omega) (by omega) (K7.out.later hX).2 (G7.out.later hX).2
      rw [hsam2] at hf
      have HF := Lib.hid hf
      clear hsame hsam2 hr hf
      go_wp2_with fail
      refine (num_any 0 _).mono ?_
      rintro e w8 ⟨rfl, rfl⟩
      go_wp2_with fail
      refine HR.out.mono ?_
      rintro e w8 ⟨rfl, hb8⟩
      have HB8 := Lib.hid (HB7.out.trans (hb8.mono HB7.out.size))
      have HF8 := Lib.hid (HF.out _ hb8)
      have G8 := Lib.hid (G7.out.later hb8)
      have K8 := Lib.hid (K7.out.later hb8)
      clear hb8 HB7 G7 K7 a0 a1 a2 k0 k1 k2 HR HF
      obtain ⟨a0, a1, a2⟩ := G8.out.c
      obtain ⟨k0, k1, k2⟩ := K8.out.c
      go_wp2_with fail
      refine HF8.out.mono ?_
      rintro e w9 ⟨rfl, hb9⟩
      have HB9 := Lib.hid (HB8.out.trans (hb9.mono HB8.out.size))
      clear hb9 a0 a1 a2 k0 k1 k2
      go_wp2_with fail
      refine (works_any _).mono ?_
      rintro e wz ⟨rfl, hbz⟩
      go_wp2
      go_ret
      exact ⟨rfl, HB9.out.trans (hbz.mono HB9.out.size)⟩
#print axioms texts_any
end Go.Proofs.YthbkdbnalkeieaaDoor
