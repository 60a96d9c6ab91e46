/- The walk of FormulaLaws: it answers true. -/
import Derived.Test.YthbkdbnalkeieaaDoorSame
import Derived.Test.YthbkdbnalkeieaaDoorOrder
namespace Go.Proofs.YthbkdbnalkeieaaDoor
open Go.RowKit Go.Sort Go.Shelf

theorem one_at {w : World} {k : Nat} {oa la : Int} {FA : Fms} {sa : Value} (h : w.heap[k]? = some (.cells #[In oa, In la, sa] 26 (0, 0))) (ha : SlIs w sa FA) (cap : Nat) :
    SlIs w (.slice (some ⟨k, 0, none⟩) 1 cap) (.cons oa la FA .nil) :=
  .inr ⟨k, 0, cap, rfl, ⟨sa, cell_of h rfl, cell_of h rfl, cell_of h rfl, ha⟩, trivial⟩

set_option maxHeartbeats 8000000 in
set_option maxRecDepth 100000 in
theorem laws_any (o1 l1 o2 l2 o3 l3 : Int) (F1 F2 F3 : Fms) (s1 s2 s3 : Value) (m : Nat) (hm : m < 65536) (w : World) (q1 : SlIs w s1 F1) (q2 : SlIs w s2 F2) (q3 : SlIs w s3 F3) :
    Calls Tryd.prog 6 #[.agg #[.int .i64 o1, .int .i64 l1, s1], .agg #[.int .i64 o2, .int .i64 l2, s2], .agg #[.int .i64 o3, .int .i64 l3, s3], .int .u16 m] w fun e w' => e = .returned (.bool true) ∧ Below w.heap.size w w' := by
  obtain ⟨p1, c1, rfl⟩ := q1.slice
  obtain ⟨p2, c2, rfl⟩ := q2.slice
  obtain ⟨p3, c3, rfl⟩ := q3.slice
  obtain ⟨b0, hb0⟩ : ∃ b0, b0 = w.heap.size := ⟨_, rfl⟩
  obtain ⟨W, hW⟩ : ∃ W, W = ((w.alloc (.cells #[.int .i64 o1, .int .i64 l1, .slice p1 F1.len c1] 26)).alloc (.cells #[.int .i64 o2, .int .i64 l2, .slice p2 F2.len c2] 26)).alloc (.cells #[.int .i64 o3, .int .i64 l3, .slice p3 F3.len c3] 26) := ⟨_, rfl⟩
  have hB : Below w.heap.size w W := by rw [hW]; exact (((Below.refl _ w).alloc (Nat.le_refl _) _).alloc (by simp) _).alloc (by simp; omega) _
  have k1 : W.heap[b0]? = some (.cells #[In o1, In l1, .slice p1 F1.len c1] 26 (0, 0)) := by rw [hW, hb0]; exact block_alloc_old _ (block_alloc_old _ (block_alloc_new w _))
  have k2 : W.heap[b0 + 1]? = some (.cells #[In o2, In l2, .slice p2 F2.len c2] 26 (0, 0)) := by
    have := block_alloc_new (w.alloc (.cells #[.int .i64 o1, .int .i64 l1, .slice p1 F1.len c1] 26)) (.cells #[.int .i64 o2, .int .i64 l2, .slice p2 F2.len c2] 26)
    rw [World.size_alloc] at this
    rw [hW, hb0]
    exact block_alloc_old _ this
  have k3 : W.heap[b0 + 1 + 1]? = some (.cells #[In o3, In l3, .slice p3 F3.len c3] 26 (0, 0)) := by
    have := block_alloc_new ((w.alloc (.cells #[.int .i64 o1, .int .i64 l1, .slice p1 F1.len c1] 26)).alloc (.cells #[.int .i64 o2, .int .i64 l2, .slice p2 F2.len c2] 26)) (.cells #[.int .i64 o3, .int .i64 l3, .slice p3 F3.len c3] 26)
    rw [World.size_alloc, World.size_alloc] at this
    rw [hW, hb0]
    exact this
  have HB0 := Lib.hid hB
  have A10 := Lib.hid (show FormAt W b0 o1 l1 F1 p1 c1 from ⟨k1, q1.later hB⟩)
  have A20 := Lib.hid (show FormAt W (b0 + 1) o2 l2 F2 p2 c2 from ⟨k2, q2.later hB⟩)
  have A30 := Lib.hid (show FormAt W (b0 + 1 + 1) o3 l3 F3 p3 c3 from ⟨k3, q3.later hB⟩)
  clear hB k1 k2 k3 q1 q2 q3
  go_enter Tryd.func6, Tryd.ntmps6
  go_upto_region 1 with fail
  rw [← hW, ← hb0]
  clear hW hb0
  obtain ⟨a0, a1, a2⟩ := A10.out.c
  obtain ⟨a3, a4, a5⟩ := A20.out.c
  obtain ⟨a6, a7, a8⟩ := A30.out.c
  go_wp2_with fail
  clear a0 a1 a2 a3 a4 a5 a6 a7 a8
  refine (light_any o1 l1 F1 (.slice p1 F1.len c1) W A10.out.2).mono ?_
  rintro e w1 ⟨rfl, hb⟩
  have HB1 := Lib.hid (HB0.out.trans (hb.mono HB0.out.size))
  have A11 := Lib.hid (A10.out.later hb)
  have A21 := Lib.hid (A20.out.later hb)
  have A31 := Lib.hid (A30.out.later hb)
  clear HB0 A10 A20 A30 
  clear hb
  cases hL1 : lightF F1 with
  | false =>
    go_wp2_with fail
    refine (works_any _).mono ?_
    rintro e wz ⟨rfl, hbz⟩
    go_wp2
    go_ret
    exact ⟨rfl, HB1.out.trans (hbz.mono HB1.out.size)⟩
  | true =>
    have hz1 := light_size hL1
    clear hL1
    obtain ⟨a0, a1, a2⟩ := A11.out.c
    obtain ⟨a3, a4, a5⟩ := A21.out.c
    obtain ⟨a6, a7, a8⟩ := A31.out.c
    go_wp2_with fail
    clear a0 a1 a2 a3 a4 a5 a6 a7 a8
    refine (light_any o2 l2 F2 (.slice p2 F2.len c2) w1 A21.out.2).mono ?_
    rintro e w2 ⟨rfl, hb⟩
    have HB2 := Lib.hid (HB1.out.trans (hb.mono HB1.out.size))
    have A12 := Lib.hid (A11.out.later hb)
    have A22 := Lib.hid (A21.out.later hb)
    have A32 := Lib.hid (A31.out.later hb)
    clear HB1 A11 A21 A31 
    clear hb
    cases hL2 : lightF F2 with
    | false =>
      go_wp2_with fail
      refine (works_any _).mono ?_
      rintro e wz ⟨rfl, hbz⟩
      go_wp2
      go_ret
      exact ⟨rfl, HB2.out.trans (hbz.mono HB2.out.size)⟩
    | true =>
      have hz2 := light_size hL2
      clear hL2
      obtain ⟨a0, a1, a2⟩ := A12.out.c
      obtain ⟨a3, a4, a5⟩ := A22.out.c
      obtain ⟨a6, a7, a8⟩ := A32.out.c
      go_wp2_with fail
      clear a0 a1 a2 a3 a4 a5 a6 a7 a8
      refine (light_any o3 l3 F3 (.slice p3 F3.len c3) w2 A32.out.2).mono ?_
      rintro e w3 ⟨rfl, hb⟩
      have HB3 := Lib.hid (HB2.out.trans (hb.mono HB2.out.size))
      have A13 := Lib.hid (A12.out.later hb)
      have A23 := Lib.hid (A22.out.later hb)
      have A33 := Lib.hid (A32.out.later hb)
      clear HB2 A12 A22 A32 
      clear hb
      cases hL3 : lightF F3 with
      | false =>
        go_wp2_with fail
        refine (works_any _).mono ?_
        rintro e wz ⟨rfl, hbz⟩
        go_wp2
        go_ret
        exact ⟨rfl, HB3.out.trans (hbz.mono HB3.out.size)⟩
      | true =>
        have hz3 := light_size hL3
        clear hL3
        obtain ⟨a0, a1, a2⟩ := A13.out.c
        obtain ⟨a3, a4, a5⟩ := A23.out.c
        obtain ⟨a6, a7, a8⟩ := A33.out.c
        go_wp2_with fail
        clear a0 a1 a2 a3 a4 a5 a6 a7 a8
        obtain ⟨x1, hx1⟩ : ∃ x, x = chk o1 l1 F1 := ⟨_, rfl⟩
        refine (check_any o1 l1 F1 (.slice p1 F1.len c1) w3 (by omega) A13.out.2).mono ?_
        rw [← hx1]
        rintro e w4 ⟨rfl, hb⟩
        have HB4 := Lib.hid (HB3.out.trans (hb.mono HB3.out.size))
        have A14 := Lib.hid (A13.out.later hb)
        have A24 := Lib.hid (A23.out.later hb)
        have A34 := Lib.hid (A33.out.later hb)
        clear HB3 A13 A23 A33 
        clear hb
        have HX1 := Lib.hid hx1
        clear hx1
        rcases (by omega : x1 ≠ 0 ∨ x1 = 0) with hx | hx
        · have e1 : (x1 != 0) = true := by simp [hx]
          clear hx
          go_wp2_with fail
          refine (works_any _).mono ?_
          rintro e wz ⟨rfl, hbz⟩
          go_wp2
          go_ret
          exact ⟨rfl, HB4.out.trans (hbz.mono HB4.out.size)⟩
        · subst hx
          obtain ⟨a0, a1, a2⟩ := A14.out.c
          obtain ⟨a3, a4, a5⟩ := A24.out.c
          obtain ⟨a6, a7, a8⟩ := A34.out.c
          go_wp2_with fail
          clear a0 a1 a2 a3 a4 a5 a6 a7 a8
          obtain ⟨x2, hx2⟩ : ∃ x, x = chk o2 l2 F2 := ⟨_, rfl⟩
          refine (check_any o2 l2 F2 (.slice p2 F2.len c2) w4 (by omega) A24.out.2).mono ?_
          rw [← hx2]
          rintro e w5 ⟨rfl, hb⟩
          have HB5 := Lib.hid (HB4.out.trans (hb.mono HB4.out.size))
          have A15 := Lib.hid (A14.out.later hb)
          have A25 := Lib.hid (A24.out.later hb)
          have A35 := Lib.hid (A34.out.later hb)
          clear HB4 A14 A24 A34 
          clear hb
          have HX2 := Lib.hid hx2
          clear hx2
          rcases (by omega : x2 ≠ 0 ∨ x2 = 0) with hx | hx
          · have e1 : (x2 != 0) = true := by simp [hx]
            clear hx
            go_wp2_with fail
            refine (works_any _).mono ?_
            rintro e wz ⟨rfl, hbz⟩
            go_wp2
            go_ret
            exact ⟨rfl, HB5.out.trans (hbz.mono HB5.out.size)⟩
          · subst hx
            obtain ⟨a0, a1, a2⟩ := A15.out.c
            obtain ⟨a3, a4, a5⟩ := A25.out.c
            obtain ⟨a6, a7, a8⟩ := A35.out.c
            go_wp2_with fail
            clear a0 a1 a2 a3 a4 a5 a6 a7 a8
            obtain ⟨x3, hx3⟩ : ∃ x, x = chk o3 l3 F3 := ⟨_, rfl⟩
            refine (check_any o3 l3 F3 (.slice p3 F3.len c3) w5 (by omega) A35.out.2).mono ?_
            rw [← hx3]
            rintro e w6 ⟨rfl, hb⟩
            have HB6 := Lib.hid (HB5.out.trans (hb.mono HB5.out.size))
            have A16 := Lib.hid (A15.out.later hb)
            have A26 := Lib.hid (A25.out.later hb)
            have A36 := Lib.hid (A35.out.later hb)
            clear HB5 A15 A25 A35 
            clear hb
            have HX3 := Lib.hid hx3
            clear hx3
            rcases (by omega : x3 ≠ 0 ∨ x3 = 0) with hx | hx
            · have e1 : (x3 != 0) = true := by simp [hx]
              clear hx
              go_wp2_with fail
              refine (works_any _).mono ?_
              rintro e wz ⟨rfl, hbz⟩
              go_wp2
              go_ret
              exact ⟨rfl, HB6.out.trans (hbz.mono HB6.out.size)⟩
            · subst hx
              obtain ⟨a0, a1, a2⟩ := A16.out.c
              obtain ⟨a3, a4, a5⟩ := A26.out.c
              obtain ⟨a6, a7, a8⟩ := A36.out.c
              go_wp2_with fail
              clear a0 a1 a2 a3 a4 a5 a6 a7 a8
              obtain ⟨bn, hbn⟩ : ∃ bn, bn = w6.heap.size := ⟨_, rfl⟩
              obtain ⟨V, hV⟩ : ∃ V, V = ((w6.alloc (.cells #[In o1, In l1, .slice p1 F1.len c1] 26)).alloc (.cells #[.int .i64 2, .int .i64 0, .slice (some ⟨bn, 0, none⟩) 1 1] 26)).alloc (.cells #[.int .i64 2, .int .i64 0, .slice (some ⟨bn + 1, 0, none⟩) 1 1] 26) := ⟨_, rfl⟩
              rw [← hbn, ← hV]
              have hbV : Below w6.heap.size w6 V := by rw [hV]; exact (((Below.refl _ w6).alloc (Nat.le_refl _) _).alloc (by simp) _).alloc (by simp; omega) _
              have k1 : V.heap[bn]? = some (.cells #[In o1, In l1, .slice p1 F1.len c1] 26 (0, 0)) := by rw [hV]; exact block_alloc_old _ (block_alloc_old _ (by rw [hbn]; exact block_alloc_new w6 _))
              have k2 : V.heap[bn + 1]? = some (.cells #[In 2, In 0, .slice (some ⟨bn, 0, none⟩) 1 1] 26 (0, 0)) := by
                have := block_alloc_new (w6.alloc (.cells #[In o1, In l1, .slice p1 F1.len c1] 26)) (.cells #[.int .i64 2, .int .i64 0, .slice (some ⟨bn, 0, none⟩) 1 1] 26)
                rw [World.size_alloc, ← hbn] at this
                rw [hV]
                exact block_alloc_old _ this
              have k3 : V.heap[bn + 1 + 1]? = some (.cells #[In 2, In 0, .slice (some ⟨bn + 1, 0, none⟩) 1 1] 26 (0, 0)) := by
                have := block_alloc_new ((w6.alloc (.cells #[In o1, In l1, .slice p1 F1.len c1] 26)).alloc (.cells #[.int .i64 2, .int .i64 0, .slice (some ⟨bn, 0, none⟩) 1 1] 26)) (.cells #[.int .i64 2, .int .i64 0, .slice (some ⟨bn + 1, 0, none⟩) 1 1] 26)
                rw [World.size_alloc, World.size_alloc, ← hbn] at this
                rw [hV]
                exact this
              have A96 := Lib.hid (show FormAt V (bn + 1 + 1) 2 0 (.cons 2 0 (.cons o1 l1 F1 .nil) .nil) (some ⟨bn + 1, 0, none⟩) 1 from ⟨k3, one_at k2 (one_at k1 (A16.out.2.later hbV) 1) 1⟩)
              have HBV := Lib.hid (HB6.out.trans (hbV.mono HB6.out.size))
              have A1V := Lib.hid (A16.out.later hbV)
              have A2V := Lib.hid (A26.out.later hbV)
              have A3V := Lib.hid (A36.out.later hbV)
              clear hV hbV k1 k2 k3 hbn HB6 A16 A26 A36
              have HKP := Lib.hid (show ∀ X, Below V.heap.size V X → (fun X => (X.cell? ⟨b0, 0, none⟩ = some (In o1) ∧ X.cell? ⟨b0, 1, none⟩ = some (In l1) ∧ X.cell? ⟨b0, 2, none⟩ = some (.slice p1 F1.len c1)) ∧ (X.cell? ⟨b0 + 1, 0, none⟩ = some (In o2) ∧ X.cell? ⟨b0 + 1, 1, none⟩ = some (In l2) ∧ X.cell? ⟨b0 + 1, 2, none⟩ = some (.slice p2 F2.len c2)) ∧ (X.cell? ⟨b0 + 1 + 1, 0, none⟩ = some (In o3) ∧ X.cell? ⟨b0 + 1 + 1, 1, none⟩ = some (In l3) ∧ X.cell? ⟨b0 + 1 + 1, 2, none⟩ = some (.slice p3 F3.len c3)) ∧ (X.cell? ⟨bn + 1 + 1, 0, none⟩ = some (In 2) ∧ X.cell? ⟨bn + 1 + 1, 1, none⟩ = some (In 0) ∧ X.cell? ⟨bn + 1 + 1, 2, none⟩ = some (.slice (some ⟨bn + 1, 0, none⟩) 1 1))) X from fun X h => ⟨(A1V.out.later h).c, (A2V.out.later h).c, (A3V.out.later h).c, (A96.out.later h).c⟩)
              have HQ := Lib.hid (show ∀ X, Below V.heap.size V X → SlIs X (.slice p1 F1.len c1) F1 ∧ SlIs X (.slice p2 F2.len c2) F2 ∧ SlIs X (.slice p3 F3.len c3) F3 ∧ SlIs X (.slice (some ⟨bn + 1, 0, none⟩) 1 1) (.cons 2 0 (.cons o1 l1 F1 .nil) .nil) from fun X h => ⟨(A1V.out.later h).2, (A2V.out.later h).2, (A3V.out.later h).2, (A96.out.later h).2⟩)
              have E1 : ∀ (X : World) (sa sb : Value), SlIs X sa (two o1 l1 F1 6 0 (two o2 l2 F2 o3 l3 F3)) → SlIs X sb (two 3 0 (two o1 l1 F1 o2 l2 F2) 3 0 (two o1 l1 F1 o3 l3 F3)) → Calls Tryd.prog 19 #[.agg #[.int .i64 3, .int .i64 0, sa], .agg #[.int .i64 6, .int .i64 0, sb], .int .u16 m] X fun e w' => e = .returned (.bool true) ∧ Below X.heap.size X w' := by
                intro X sa sb ha hb
                refine same_any 3 0 6 0 (two o1 l1 F1 6 0 (two o2 l2 F2 o3 l3 F3)) (two 3 0 (two o1 l1 F1 o2 l2 F2) 3 0 (two o1 l1 F1 o3 l3 F3)) sa sb m hm X ha hb (by first | omega | (simp [two, Fms.size]; omega)) (by first | omega | (simp [two, Fms.size]; omega)) (fun _ _ => ?_)
                simp only [hld_two _ _ _ _ _ _ _ m (by decide : (3 : Int) ≠ 1) (by decide), hld_two _ _ _ _ _ _ _ m (by decide : (6 : Int) ≠ 1) (by decide)]
                cases hld o1 l1 F1 m <;> cases hld o2 l2 F2 m <;> cases hld o3 l3 F3 m <;> rfl
              have E1 := Lib.hid E1
              have E2 : ∀ (X : World) (sa sb : Value), SlIs X sa (two o1 l1 F1 5 0 (two o2 l2 F2 o3 l3 F3)) → SlIs X sb (two 3 0 (two o1 l1 F1 o2 l2 F2) 3 0 (two o1 l1 F1 o3 l3 F3)) → Calls Tryd.prog 19 #[.agg #[.int .i64 3, .int .i64 0, sa], .agg #[.int .i64 5, .int .i64 0, sb], .int .u16 m] X fun e w' => e = .returned (.bool true) ∧ Below X.heap.size X w' := by
                intro X sa sb ha hb
                refine same_any 3 0 5 0 (two o1 l1 F1 5 0 (two o2 l2 F2 o3 l3 F3)) (two 3 0 (two o1 l1 F1 o2 l2 F2) 3 0 (two o1 l1 F1 o3 l3 F3)) sa sb m hm X ha hb (by first | omega | (simp [two, Fms.size]; omega)) (by first | omega | (simp [two, Fms.size]; omega)) (fun _ _ => ?_)
                simp only [hld_two _ _ _ _ _ _ _ m (by decide : (3 : Int) ≠ 1) (by decide), hld_two _ _ _ _ _ _ _ m (by decide : (5 : Int) ≠ 1) (by decide)]
                cases hld o1 l1 F1 m <;> cases hld o2 l2 F2 m <;> cases hld o3 l3 F3 m <;> rfl
              have E2 := Lib.hid E2
              have E3 : ∀ (X : World) (sa sb : Value), SlIs X sa (two 4 0 (two o1 l1 F1 o2 l2 F2) o3 l3 F3) → SlIs X sb (two o1 l1 F1 6 0 (two o2 l2 F2 o3 l3 F3)) → Calls Tryd.prog 19 #[.agg #[.int .i64 4, .int .i64 0, sa], .agg #[.int .i64 4, .int .i64 0, sb], .int .u16 m] X fun e w' => e = .returned (.bool true) ∧ Below X.heap.size X w' := by
                intro X sa sb ha hb
                refine same_any 4 0 4 0 (two 4 0 (two o1 l1 F1 o2 l2 F2) o3 l3 F3) (two o1 l1 F1 6 0 (two o2 l2 F2 o3 l3 F3)) sa sb m hm X ha hb (by first | omega | (simp [two, Fms.size]; omega)) (by first | omega | (simp [two, Fms.size]; omega)) (fun _ _ => ?_)
                simp only [hld_two _ _ _ _ _ _ _ m (by decide : (4 : Int) ≠ 1) (by decide), hld_two _ _ _ _ _ _ _ m (by decide : (6 : Int) ≠ 1) (by decide)]
                cases hld o1 l1 F1 m <;> cases hld o2 l2 F2 m <;> cases hld o3 l3 F3 m <;> rfl
              have E3 := Lib.hid E3
              have E4 : ∀ (X : World) (sa sb : Value), SlIs X sa (two 5 0 (two o1 l1 F1 o2 l2 F2) o3 l3 F3) → SlIs X sb (two o1 l1 F1 5 0 (two o2 l2 F2 o3 l3 F3)) → Calls Tryd.prog 19 #[.agg #[.int .i64 5, .int .i64 0, sa], .agg #[.int .i64 5, .int .i64 0, sb], .int .u16 m] X fun e w' => e = .returned (.bool true) ∧ Below X.heap.size X w' := by
                intro X sa sb ha hb
                refine same_any 5 0 5 0 (two 5 0 (two o1 l1 F1 o2 l2 F2) o3 l3 F3) (two o1 l1 F1 5 0 (two o2 l2 F2 o3 l3 F3)) sa sb m hm X ha hb (by first | omega | (simp [two, Fms.size]; omega)) (by first | omega | (simp [two, Fms.size]; omega)) (fun _ _ => ?_)
                simp only [hld_two _ _ _ _ _ _ _ m (by decide : (5 : Int) ≠ 1) (by decide)]
                cases hld o1 l1 F1 m <;> cases hld o2 l2 F2 m <;> cases hld o3 l3 F3 m <;> rfl
              have E4 := Lib.hid E4
              have E5 : ∀ (X : World) (sa sb : Value), SlIs X (.slice (some ⟨bn + 1, 0, none⟩) 1 1) (.cons 2 0 (.cons o1 l1 F1 .nil) .nil) → SlIs X (.slice p1 F1.len c1) F1 → Calls Tryd.prog 19 #[.agg #[.int .i64 2, .int .i64 0, (.slice (some ⟨bn + 1, 0, none⟩) 1 1)], .agg #[.int .i64 o1, .int .i64 l1, (.slice p1 F1.len c1)], .int .u16 m] X fun e w' => e = .returned (.bool true) ∧ Below X.heap.size X w' := by
                intro X sa sb ha hb
                refine same_any 2 0 o1 l1 (.cons 2 0 (.cons o1 l1 F1 .nil) .nil) F1 (.slice (some ⟨bn + 1, 0, none⟩) 1 1) (.slice p1 F1.len c1) m hm X ha hb (by simp [Fms.size]; omega) (by omega) (fun _ _ => ?_)
                simp only [hld_not]
                cases hld o1 l1 F1 m <;> rfl
              have E5 := Lib.hid E5
              have BV0 : Below V.heap.size V V.drew := (Below.refl _ V).drew
              simp only [List.append_eq, List.cons_append, List.nil_append]
              refine wp_region_order (fun X => (X.cell? ⟨b0, 0, none⟩ = some (In o1) ∧ X.cell? ⟨b0, 1, none⟩ = some (In l1) ∧ X.cell? ⟨b0, 2, none⟩ = some (.slice p1 F1.len c1)) ∧ (X.cell? ⟨b0 + 1, 0, none⟩ = some (In o2) ∧ X.cell? ⟨b0 + 1, 1, none⟩ = some (In l2) ∧ X.cell? ⟨b0 + 1, 2, none⟩ = some (.slice p2 F2.len c2)) ∧ (X.cell? ⟨b0 + 1 + 1, 0, none⟩ = some (In o3) ∧ X.cell? ⟨b0 + 1 + 1, 1, none⟩ = some (In l3) ∧ X.cell? ⟨b0 + 1 + 1, 2, none⟩ = some (.slice p3 F3.len c3)) ∧ (X.cell? ⟨bn + 1 + 1, 0, none⟩ = some (In 2) ∧ X.cell? ⟨bn + 1 + 1, 1, none⟩ = some (In 0) ∧ X.cell? ⟨bn + 1 + 1, 2, none⟩ = some (.slice (some ⟨bn + 1, 0, none⟩) 1 1))) [(true, 0), (true, 1), (true, 2), (true, 5), (true, 6), (true, 8), (true, 9), (true, 12), (false, 3), (false, 4), (false, 7), (false, 10), (false, 11), (false, 13), (true, 14), (true, 15), (true, 16), (true, 17), (true, 20), (true, 21), (true, 23), (true, 24), (true, 27), (false, 18), (false, 19), (false, 22), (false, 25), (false, 26), (false, 28), (true, 29), (true, 30), (true, 31), (true, 32), (true, 34), (true, 36), (true, 37), (true, 38), (true, 41), (false, 33), (false, 35), (false, 39), (false, 40), (false, 42), (true, 43), (true, 44), (true, 45), (true, 46), (true, 48), (true, 50), (true, 51), (true, 52), (true, 55), (false, 47), (false, 49), (false, 53), (false, 54), (false, 56), (true, 57), (true, 58), (true, 59), (true, 60), (true, 61), (false, 62), (true, 63), (true, 64), (false, 65), (true, 66), (true, 67)] (by kernel_rfl) (by kernel_rfl) (fun _ _ _ _ _ h => h) (HKP.out _ BV0) ?_
              refine order_take (o := ⟨_, _, _, _, _, _⟩) (v := ?_) rfl (Or.inl ⟨by rfl, ?_⟩) ?_
              rotate_left
              · (rintro X ⟨⟨a0, a1, a2⟩, ⟨a3, a4, a5⟩, ⟨a6, a7, a8⟩, ⟨a9, a10, a11⟩⟩; go_simp; try with_reducible rfl)
              try simp only [Act.put, List.setIfInBounds_toArray, List.set_cons_zero, List.set_cons_succ]
              refine order_take (o := ⟨_, _, _, _, _, _⟩) (v := ?_) rfl (Or.inl ⟨by rfl, ?_⟩) ?_
              rotate_left
              · (rintro X ⟨⟨a0, a1, a2⟩, ⟨a3, a4, a5⟩, ⟨a6, a7, a8⟩, ⟨a9, a10, a11⟩⟩; go_simp; try with_reducible rfl)
              try simp only [Act.put, List.setIfInBounds_toArray, List.set_cons_zero, List.set_cons_succ]
              refine order_take (o := ⟨_, _, _, _, _, _⟩) (v := ?_) rfl (Or.inl ⟨by rfl, ?_⟩) ?_
              rotate_left
              · (rintro X ⟨⟨a0, a1, a2⟩, ⟨a3, a4, a5⟩, ⟨a6, a7, a8⟩, ⟨a9, a10, a11⟩⟩; go_simp; try with_reducible rfl)
              try simp only [Act.put, List.setIfInBounds_toArray, List.set_cons_zero, List.set_cons_succ]
              refine order_take (o := ⟨_, _, _, _, _, _⟩) (v := ?_) rfl (Or.inl ⟨by rfl, ?_⟩) ?_
              rotate_left
              · (rintro X ⟨⟨a0, a1, a2⟩, ⟨a3, a4, a5⟩, ⟨a6, a7, a8⟩, ⟨a9, a10, a11⟩⟩; go_simp; try with_reducible rfl)
              try simp only [Act.put, List.setIfInBounds_toArray, List.set_cons_zero, List.set_cons_succ]
              refine order_take (o := ⟨_, _, _, _, _, _⟩) (v := ?_) rfl (Or.inl ⟨by rfl, ?_⟩) ?_
              rotate_left
              · (rintro X ⟨⟨a0, a1, a2⟩, ⟨a3, a4, a5⟩, ⟨a6, a7, a8⟩, ⟨a9, a10, a11⟩⟩; go_simp; try with_reducible rfl)
              try simp only [Act.put, List.setIfInBounds_toArray, List.set_cons_zero, List.set_cons_succ]
              refine order_take (o := ⟨_, _, _, _, _, _⟩) (v := ?_) rfl (Or.inl ⟨by rfl, ?_⟩) ?_
              rotate_left
              · (rintro X ⟨⟨a0, a1, a2⟩, ⟨a3, a4, a5⟩, ⟨a6, a7, a8⟩, ⟨a9, a10, a11⟩⟩; go_simp; try with_reducible rfl)
              try simp only [Act.put, List.setIfInBounds_toArray, List.set_cons_zero, List.set_cons_succ]
              refine order_take (o := ⟨_, _, _, _, _, _⟩) (v := ?_) rfl (Or.inl ⟨by rfl, ?_⟩) ?_
              rotate_left
              · (rintro X ⟨⟨a0, a1, a2⟩, ⟨a3, a4, a5⟩, ⟨a6, a7, a8⟩, ⟨a9, a10, a11⟩⟩; go_simp; try with_reducible rfl)
              try simp only [Act.put, List.setIfInBounds_toArray, List.set_cons_zero, List.set_cons_succ]
              refine order_take (o := ⟨_, _, _, _, _, _⟩) (v := ?_) rfl (Or.inl ⟨by rfl, ?_⟩) ?_
              rotate_left
              · (rintro X ⟨⟨a0, a1, a2⟩, ⟨a3, a4, a5⟩, ⟨a6, a7, a8⟩, ⟨a9, a10, a11⟩⟩; go_simp; try with_reducible rfl)
              try simp only [Act.put, List.setIfInBounds_toArray, List.set_cons_zero, List.set_cons_succ]
              refine order_do (o := ⟨_, _, _, _, _, _⟩) rfl (fun K hK => ?_)
              go_simp
              refine (of_any 6 o2 l2 o3 l3 F2 F3 (.slice p2 F2.len c2) (.slice p3 F3.len c3) V.drew (HQ.out V.drew BV0).2.1 (HQ.out V.drew BV0).2.2.1).mono ?_
              rintro e v1 ⟨⟨s47, rfl, hs⟩, hb⟩
              have BV1 := BV0.trans (hb.mono BV0.size)
              have Hs47 := Lib.hid hs
              clear hs
              clear hb BV0 
              refine hK.out _ _ (HKP.out _ BV1) (fun _ => ?_)
              clear hK K
              try simp only [Act.put, List.setIfInBounds_toArray, List.set_cons_zero, List.set_cons_succ]
              refine order_do (o := ⟨_, _, _, _, _, _⟩) rfl (fun K hK => ?_)
              go_simp
              refine (of_any 3 o1 l1 6 0 F1 (two o2 l2 F2 o3 l3 F3) (.slice p1 F1.len c1) s47 v1 (HQ.out v1 BV1).1 Hs47.out).mono ?_
              rintro e v2 ⟨⟨s48, rfl, hs⟩, hb⟩
              have BV2 := BV1.trans (hb.mono BV1.size)
              have Hs48 := Lib.hid hs
              clear hs
              clear hb BV1 Hs47
              refine hK.out _ _ (HKP.out _ BV2) (fun _ => ?_)
              clear hK K
              try simp only [Act.put, List.setIfInBounds_toArray, List.set_cons_zero, List.set_cons_succ]
              refine order_do (o := ⟨_, _, _, _, _, _⟩) rfl (fun K hK => ?_)
              go_simp
              refine (of_any 3 o1 l1 o2 l2 F1 F2 (.slice p1 F1.len c1) (.slice p2 F2.len c2) v2 (HQ.out v2 BV2).1 (HQ.out v2 BV2).2.1).mono ?_
              rintro e v3 ⟨⟨s51, rfl, hs⟩, hb⟩
              have BV3 := BV2.trans (hb.mono BV2.size)
              replace Hs48 := Lib.hid (Hs48.out.later hb)
              have Hs51 := Lib.hid hs
              clear hs
              clear hb BV2 
              refine hK.out _ _ (HKP.out _ BV3) (fun _ => ?_)
              clear hK K
              try simp only [Act.put, List.setIfInBounds_toArray, List.set_cons_zero, List.set_cons_succ]
              refine order_do (o := ⟨_, _, _, _, _, _⟩) rfl (fun K hK => ?_)
              go_simp
              refine (of_any 3 o1 l1 o3 l3 F1 F3 (.slice p1 F1.len c1) (.slice p3 F3.len c3) v3 (HQ.out v3 BV3).1 (HQ.out v3 BV3).2.2.1).mono ?_
              rintro e v4 ⟨⟨s54, rfl, hs⟩, hb⟩
              have BV4 := BV3.trans (hb.mono BV3.size)
              replace Hs48 := Lib.hid (Hs48.out.later hb)
              replace Hs51 := Lib.hid (Hs51.out.later hb)
              have Hs54 := Lib.hid hs
              clear hs
              clear hb BV3 
              refine hK.out _ _ (HKP.out _ BV4) (fun _ => ?_)
              clear hK K
              try simp only [Act.put, List.setIfInBounds_toArray, List.set_cons_zero, List.set_cons_succ]
              refine order_do (o := ⟨_, _, _, _, _, _⟩) rfl (fun K hK => ?_)
              go_simp
              refine (of_any 6 3 0 3 0 (two o1 l1 F1 o2 l2 F2) (two o1 l1 F1 o3 l3 F3) s51 s54 v4 Hs51.out Hs54.out).mono ?_
              rintro e v5 ⟨⟨s55, rfl, hs⟩, hb⟩
              have BV5 := BV4.trans (hb.mono BV4.size)
              replace Hs48 := Lib.hid (Hs48.out.later hb)
              have Hs55 := Lib.hid hs
              clear hs
              clear hb BV4 Hs51 Hs54
              refine hK.out _ _ (HKP.out _ BV5) (fun _ => ?_)
              clear hK K
              try simp only [Act.put, List.setIfInBounds_toArray, List.set_cons_zero, List.set_cons_succ]
              refine order_do (o := ⟨_, _, _, _, _, _⟩) rfl (fun K hK => ?_)
              go_simp
              refine (E1.out v5 s48 s55 Hs48.out Hs55.out).mono ?_
              rintro e v6 ⟨rfl, hb⟩
              have BV6 := BV5.trans (hb.mono BV5.size)
              clear hb BV5 Hs48 Hs55
              refine hK.out _ _ (HKP.out _ BV6) (fun _ => ?_)
              clear hK K
              try simp only [Act.put, List.setIfInBounds_toArray, List.set_cons_zero, List.set_cons_succ]
              refine order_take (o := ⟨_, _, _, _, _, _⟩) (v := ?_) rfl (Or.inl ⟨by rfl, ?_⟩) ?_
              rotate_left
              · (rintro X ⟨⟨a0, a1, a2⟩, ⟨a3, a4, a5⟩, ⟨a6, a7, a8⟩, ⟨a9, a10, a11⟩⟩; go_simp; try with_reducible rfl)
              try simp only [Act.put, List.setIfInBounds_toArray, List.set_cons_zero, List.set_cons_succ]
              refine order_take (o := ⟨_, _, _, _, _, _⟩) (v := ?_) rfl (Or.inl ⟨by rfl, ?_⟩) ?_
              rotate_left
              · (rintro X ⟨⟨a0, a1, a2⟩, ⟨a3, a4, a5⟩, ⟨a6, a7, a8⟩, ⟨a9, a10, a11⟩⟩; go_simp; try with_reducible rfl)
              try simp only [Act.put, List.setIfInBounds_toArray, List.set_cons_zero, List.set_cons_succ]
              refine order_take (o := ⟨_, _, _, _, _, _⟩) (v := ?_) rfl (Or.inl ⟨by rfl, ?_⟩) ?_
              rotate_left
              · (rintro X ⟨⟨a0, a1, a2⟩, ⟨a3, a4, a5⟩, ⟨a6, a7, a8⟩, ⟨a9, a10, a11⟩⟩; go_simp; try with_reducible rfl)
              try simp only [Act.put, List.setIfInBounds_toArray, List.set_cons_zero, List.set_cons_succ]
              refine order_take (o := ⟨_, _, _, _, _, _⟩) (v := ?_) rfl (Or.inl ⟨by rfl, ?_⟩) ?_
              rotate_left
              · (rintro X ⟨⟨a0, a1, a2⟩, ⟨a3, a4, a5⟩, ⟨a6, a7, a8⟩, ⟨a9, a10, a11⟩⟩; go_simp; try with_reducible rfl)
              try simp only [Act.put, List.setIfInBounds_toArray, List.set_cons_zero, List.set_cons_succ]
              refine order_take (o := ⟨_, _, _, _, _, _⟩) (v := ?_) rfl (Or.inl ⟨by rfl, ?_⟩) ?_
              rotate_left
              · (rintro X ⟨⟨a0, a1, a2⟩, ⟨a3, a4, a5⟩, ⟨a6, a7, a8⟩, ⟨a9, a10, a11⟩⟩; go_simp; try with_reducible rfl)
              try simp only [Act.put, List.setIfInBounds_toArray, List.set_cons_zero, List.set_cons_succ]
              refine order_take (o := ⟨_, _, _, _, _, _⟩) (v := ?_) rfl (Or.inl ⟨by rfl, ?_⟩) ?_
              rotate_left
              · (rintro X ⟨⟨a0, a1, a2⟩, ⟨a3, a4, a5⟩, ⟨a6, a7, a8⟩, ⟨a9, a10, a11⟩⟩; go_simp; try with_reducible rfl)
              try simp only [Act.put, List.setIfInBounds_toArray, List.set_cons_zero, List.set_cons_succ]
              refine order_take (o := ⟨_, _, _, _, _, _⟩) (v := ?_) rfl (Or.inl ⟨by rfl, ?_⟩) ?_
              rotate_left
              · (rintro X ⟨⟨a0, a1, a2⟩, ⟨a3, a4, a5⟩, ⟨a6, a7, a8⟩, ⟨a9, a10, a11⟩⟩; go_simp; try with_reducible rfl)
              try simp only [Act.put, List.setIfInBounds_toArray, List.set_cons_zero, List.set_cons_succ]
              refine order_take (o := ⟨_, _, _, _, _, _⟩) (v := ?_) rfl (Or.inl ⟨by rfl, ?_⟩) ?_
              rotate_left
              · (rintro X ⟨⟨a0, a1, a2⟩, ⟨a3, a4, a5⟩, ⟨a6, a7, a8⟩, ⟨a9, a10, a11⟩⟩; go_simp; try with_reducible rfl)
              try simp only [Act.put, List.setIfInBounds_toArray, List.set_cons_zero, List.set_cons_succ]
              refine order_take (o := ⟨_, _, _, _, _, _⟩) (v := ?_) rfl (Or.inl ⟨by rfl, ?_⟩) ?_
              rotate_left
              · (rintro X ⟨⟨a0, a1, a2⟩, ⟨a3, a4, a5⟩, ⟨a6, a7, a8⟩, ⟨a9, a10, a11⟩⟩; go_simp; try with_reducible rfl)
              try simp only [Act.put, List.setIfInBounds_toArray, List.set_cons_zero, List.set_cons_succ]
              refine order_do (o := ⟨_, _, _, _, _, _⟩) rfl (fun K hK => ?_)
              go_simp
              refine (of_any 5 o2 l2 o3 l3 F2 F3 (.slice p2 F2.len c2) (.slice p3 F3.len c3) v6 (HQ.out v6 BV6).2.1 (HQ.out v6 BV6).2.2.1).mono ?_
              rintro e v7 ⟨⟨s62, rfl, hs⟩, hb⟩
              have BV7 := BV6.trans (hb.mono BV6.size)
              have Hs62 := Lib.hid hs
              clear hs
              clear hb BV6 
              refine hK.out _ _ (HKP.out _ BV7) (fun _ => ?_)
              clear hK K
              try simp only [Act.put, List.setIfInBounds_toArray, List.set_cons_zero, List.set_cons_succ]
              refine order_do (o := ⟨_, _, _, _, _, _⟩) rfl (fun K hK => ?_)
              go_simp
              refine (of_any 3 o1 l1 5 0 F1 (two o2 l2 F2 o3 l3 F3) (.slice p1 F1.len c1) s62 v7 (HQ.out v7 BV7).1 Hs62.out).mono ?_
              rintro e v8 ⟨⟨s63, rfl, hs⟩, hb⟩
              have BV8 := BV7.trans (hb.mono BV7.size)
              have Hs63 := Lib.hid hs
              clear hs
              clear hb BV7 Hs62
              refine hK.out _ _ (HKP.out _ BV8) (fun _ => ?_)
              clear hK K
              try simp only [Act.put, List.setIfInBounds_toArray, List.set_cons_zero, List.set_cons_succ]
              refine order_do (o := ⟨_, _, _, _, _, _⟩) rfl (fun K hK => ?_)
              go_simp
              refine (of_any 3 o1 l1 o2 l2 F1 F2 (.slice p1 F1.len c1) (.slice p2 F2.len c2) v8 (HQ.out v8 BV8).1 (HQ.out v8 BV8).2.1).mono ?_
              rintro e v9 ⟨⟨s66, rfl, hs⟩, hb⟩
              have BV9 := BV8.trans (hb.mono BV8.size)
              replace Hs63 := Lib.hid (Hs63.out.later hb)
              have Hs66 := Lib.hid hs
              clear hs
              clear hb BV8 
              refine hK.out _ _ (HKP.out _ BV9) (fun _ => ?_)
              clear hK K
              try simp only [Act.put, List.setIfInBounds_toArray, List.set_cons_zero, List.set_cons_succ]
              refine order_do (o := ⟨_, _, _, _, _, _⟩) rfl (fun K hK => ?_)
              go_simp
              refine (of_any 3 o1 l1 o3 l3 F1 F3 (.slice p1 F1.len c1) (.slice p3 F3.len c3) v9 (HQ.out v9 BV9).1 (HQ.out v9 BV9).2.2.1).mono ?_
              rintro e v10 ⟨⟨s69, rfl, hs⟩, hb⟩
              have BV10 := BV9.trans (hb.mono BV9.size)
              replace Hs63 := Lib.hid (Hs63.out.later hb)
              replace Hs66 := Lib.hid (Hs66.out.later hb)
              have Hs69 := Lib.hid hs
              clear hs
              clear hb BV9 
              refine hK.out _ _ (HKP.out _ BV10) (fun _ => ?_)
              clear hK K
              try simp only [Act.put, List.setIfInBounds_toArray, List.set_cons_zero, List.set_cons_succ]
              refine order_do (o := ⟨_, _, _, _, _, _⟩) rfl (fun K hK => ?_)
              go_simp
              refine (of_any 5 3 0 3 0 (two o1 l1 F1 o2 l2 F2) (two o1 l1 F1 o3 l3 F3) s66 s69 v10 Hs66.out Hs69.out).mono ?_
              rintro e v11 ⟨⟨s70, rfl, hs⟩, hb⟩
              have BV11 := BV10.trans (hb.mono BV10.size)
              replace Hs63 := Lib.hid (Hs63.out.later hb)
              have Hs70 := Lib.hid hs
              clear hs
              clear hb BV10 Hs66 Hs69
              refine hK.out _ _ (HKP.out _ BV11) (fun _ => ?_)
              clear hK K
              try simp only [Act.put, List.setIfInBounds_toArray, List.set_cons_zero, List.set_cons_succ]
              refine order_do (o := ⟨_, _, _, _, _, _⟩) rfl (fun K hK => ?_)
              go_simp
              refine (E2.out v11 s63 s70 Hs63.out Hs70.out).mono ?_
              rintro e v12 ⟨rfl, hb⟩
              have BV12 := BV11.trans (hb.mono BV11.size)
              clear hb BV11 Hs63 Hs70
              refine hK.out _ _ (HKP.out _ BV12) (fun _ => ?_)
              clear hK K
              try simp only [Act.put, List.setIfInBounds_toArray, List.set_cons_zero, List.set_cons_succ]
              refine order_take (o := ⟨_, _, _, _, _, _⟩) (v := ?_) rfl (Or.inl ⟨by rfl, ?_⟩) ?_
              rotate_left
              · (rintro X ⟨⟨a0, a1, a2⟩, ⟨a3, a4, a5⟩, ⟨a6, a7, a8⟩, ⟨a9, a10, a11⟩⟩; go_simp; try with_reducible rfl)
              try simp only [Act.put, List.setIfInBounds_toArray, List.set_cons_zero, List.set_cons_succ]
              refine order_take (o := ⟨_, _, _, _, _, _⟩) (v := ?_) rfl (Or.inl ⟨by rfl, ?_⟩) ?_
              rotate_left
              · (rintro X ⟨⟨a0, a1, a2⟩, ⟨a3, a4, a5⟩, ⟨a6, a7, a8⟩, ⟨a9, a10, a11⟩⟩; go_simp; try with_reducible rfl)
              try simp only [Act.put, List.setIfInBounds_toArray, List.set_cons_zero, List.set_cons_succ]
              refine order_take (o := ⟨_, _, _, _, _, _⟩) (v := ?_) rfl (Or.inl ⟨by rfl, ?_⟩) ?_
              rotate_left
              · (rintro X ⟨⟨a0, a1, a2⟩, ⟨a3, a4, a5⟩, ⟨a6, a7, a8⟩, ⟨a9, a10, a11⟩⟩; go_simp; try with_reducible rfl)
              try simp only [Act.put, List.setIfInBounds_toArray, List.set_cons_zero, List.set_cons_succ]
              refine order_take (o := ⟨_, _, _, _, _, _⟩) (v := ?_) rfl (Or.inl ⟨by rfl, ?_⟩) ?_
              rotate_left
              · (rintro X ⟨⟨a0, a1, a2⟩, ⟨a3, a4, a5⟩, ⟨a6, a7, a8⟩, ⟨a9, a10, a11⟩⟩; go_simp; try with_reducible rfl)
              try simp only [Act.put, List.setIfInBounds_toArray, List.set_cons_zero, List.set_cons_succ]
              refine order_take (o := ⟨_, _, _, _, _, _⟩) (v := ?_) rfl (Or.inl ⟨by rfl, ?_⟩) ?_
              rotate_left
              · (rintro X ⟨⟨a0, a1, a2⟩, ⟨a3, a4, a5⟩, ⟨a6, a7, a8⟩, ⟨a9, a10, a11⟩⟩; go_simp; try with_reducible rfl)
              try simp only [Act.put, List.setIfInBounds_toArray, List.set_cons_zero, List.set_cons_succ]
              refine order_take (o := ⟨_, _, _, _, _, _⟩) (v := ?_) rfl (Or.inl ⟨by rfl, ?_⟩) ?_
              rotate_left
              · (rintro X ⟨⟨a0, a1, a2⟩, ⟨a3, a4, a5⟩, ⟨a6, a7, a8⟩, ⟨a9, a10, a11⟩⟩; go_simp; try with_reducible rfl)
              try simp only [Act.put, List.setIfInBounds_toArray, List.set_cons_zero, List.set_cons_succ]
              refine order_take (o := ⟨_, _, _, _, _, _⟩) (v := ?_) rfl (Or.inl ⟨by rfl, ?_⟩) ?_
              rotate_left
              · (rintro X ⟨⟨a0, a1, a2⟩, ⟨a3, a4, a5⟩, ⟨a6, a7, a8⟩, ⟨a9, a10, a11⟩⟩; go_simp; try with_reducible rfl)
              try simp only [Act.put, List.setIfInBounds_toArray, List.set_cons_zero, List.set_cons_succ]
              refine order_take (o := ⟨_, _, _, _, _, _⟩) (v := ?_) rfl (Or.inl ⟨by rfl, ?_⟩) ?_
              rotate_left
              · (rintro X ⟨⟨a0, a1, a2⟩, ⟨a3, a4, a5⟩, ⟨a6, a7, a8⟩, ⟨a9, a10, a11⟩⟩; go_simp; try with_reducible rfl)
              try simp only [Act.put, List.setIfInBounds_toArray, List.set_cons_zero, List.set_cons_succ]
              refine order_take (o := ⟨_, _, _, _, _, _⟩) (v := ?_) rfl (Or.inl ⟨by rfl, ?_⟩) ?_
              rotate_left
              · (rintro X ⟨⟨a0, a1, a2⟩, ⟨a3, a4, a5⟩, ⟨a6, a7, a8⟩, ⟨a9, a10, a11⟩⟩; go_simp; try with_reducible rfl)
              try simp only [Act.put, List.setIfInBounds_toArray, List.set_cons_zero, List.set_cons_succ]
              refine order_do (o := ⟨_, _, _, _, _, _⟩) rfl (fun K hK => ?_)
              go_simp
              refine (of_any 4 o1 l1 o2 l2 F1 F2 (.slice p1 F1.len c1) (.slice p2 F2.len c2) v12 (HQ.out v12 BV12).1 (HQ.out v12 BV12).2.1).mono ?_
              rintro e v13 ⟨⟨s77, rfl, hs⟩, hb⟩
              have BV13 := BV12.trans (hb.mono BV12.size)
              have Hs77 := Lib.hid hs
              clear hs
              clear hb BV12 
              refine hK.out _ _ (HKP.out _ BV13) (fun _ => ?_)
              clear hK K
              try simp only [Act.put, List.setIfInBounds_toArray, List.set_cons_zero, List.set_cons_succ]
              refine order_do (o := ⟨_, _, _, _, _, _⟩) rfl (fun K hK => ?_)
              go_simp
              refine (of_any 4 4 0 o3 l3 (two o1 l1 F1 o2 l2 F2) F3 s77 (.slice p3 F3.len c3) v13 Hs77.out (HQ.out v13 BV13).2.2.1).mono ?_
              rintro e v14 ⟨⟨s79, rfl, hs⟩, hb⟩
              have BV14 := BV13.trans (hb.mono BV13.size)
              have Hs79 := Lib.hid hs
              clear hs
              clear hb BV13 Hs77
              refine hK.out _ _ (HKP.out _ BV14) (fun _ => ?_)
              clear hK K
              try simp only [Act.put, List.setIfInBounds_toArray, List.set_cons_zero, List.set_cons_succ]
              refine order_do (o := ⟨_, _, _, _, _, _⟩) rfl (fun K hK => ?_)
              go_simp
              refine (of_any 6 o2 l2 o3 l3 F2 F3 (.slice p2 F2.len c2) (.slice p3 F3.len c3) v14 (HQ.out v14 BV14).2.1 (HQ.out v14 BV14).2.2.1).mono ?_
              rintro e v15 ⟨⟨s83, rfl, hs⟩, hb⟩
              have BV15 := BV14.trans (hb.mono BV14.size)
              replace Hs79 := Lib.hid (Hs79.out.later hb)
              have Hs83 := Lib.hid hs
              clear hs
              clear hb BV14 
              refine hK.out _ _ (HKP.out _ BV15) (fun _ => ?_)
              clear hK K
              try simp only [Act.put, List.setIfInBounds_toArray, List.set_cons_zero, List.set_cons_succ]
              refine order_do (o := ⟨_, _, _, _, _, _⟩) rfl (fun K hK => ?_)
              go_simp
              refine (of_any 4 o1 l1 6 0 F1 (two o2 l2 F2 o3 l3 F3) (.slice p1 F1.len c1) s83 v15 (HQ.out v15 BV15).1 Hs83.out).mono ?_
              rintro e v16 ⟨⟨s84, rfl, hs⟩, hb⟩
              have BV16 := BV15.trans (hb.mono BV15.size)
              replace Hs79 := Lib.hid (Hs79.out.later hb)
              have Hs84 := Lib.hid hs
              clear hs
              clear hb BV15 Hs83
              refine hK.out _ _ (HKP.out _ BV16) (fun _ => ?_)
              clear hK K
              try simp only [Act.put, List.setIfInBounds_toArray, List.set_cons_zero, List.set_cons_succ]
              refine order_do (o := ⟨_, _, _, _, _, _⟩) rfl (fun K hK => ?_)
              go_simp
              refine (E3.out v16 s79 s84 Hs79.out Hs84.out).mono ?_
              rintro e v17 ⟨rfl, hb⟩
              have BV17 := BV16.trans (hb.mono BV16.size)
              clear hb BV16 Hs79 Hs84
              refine hK.out _ _ (HKP.out _ BV17) (fun _ => ?_)
              clear hK K
              try simp only [Act.put, List.setIfInBounds_toArray, List.set_cons_zero, List.set_cons_succ]
              refine order_take (o := ⟨_, _, _, _, _, _⟩) (v := ?_) rfl (Or.inl ⟨by rfl, ?_⟩) ?_
              rotate_left
              · (rintro X ⟨⟨a0, a1, a2⟩, ⟨a3, a4, a5⟩, ⟨a6, a7, a8⟩, ⟨a9, a10, a11⟩⟩; go_simp; try with_reducible rfl)
              try simp only [Act.put, List.setIfInBounds_toArray, List.set_cons_zero, List.set_cons_succ]
              refine order_take (o := ⟨_, _, _, _, _, _⟩) (v := ?_) rfl (Or.inl ⟨by rfl, ?_⟩) ?_
              rotate_left
              · (rintro X ⟨⟨a0, a1, a2⟩, ⟨a3, a4, a5⟩, ⟨a6, a7, a8⟩, ⟨a9, a10, a11⟩⟩; go_simp; try with_reducible rfl)
              try simp only [Act.put, List.setIfInBounds_toArray, List.set_cons_zero, List.set_cons_succ]
              refine order_take (o := ⟨_, _, _, _, _, _⟩) (v := ?_) rfl (Or.inl ⟨by rfl, ?_⟩) ?_
              rotate_left
              · (rintro X ⟨⟨a0, a1, a2⟩, ⟨a3, a4, a5⟩, ⟨a6, a7, a8⟩, ⟨a9, a10, a11⟩⟩; go_simp; try with_reducible rfl)
              try simp only [Act.put, List.setIfInBounds_toArray, List.set_cons_zero, List.set_cons_succ]
              refine order_take (o := ⟨_, _, _, _, _, _⟩) (v := ?_) rfl (Or.inl ⟨by rfl, ?_⟩) ?_
              rotate_left
              · (rintro X ⟨⟨a0, a1, a2⟩, ⟨a3, a4, a5⟩, ⟨a6, a7, a8⟩, ⟨a9, a10, a11⟩⟩; go_simp; try with_reducible rfl)
              try simp only [Act.put, List.setIfInBounds_toArray, List.set_cons_zero, List.set_cons_succ]
              refine order_take (o := ⟨_, _, _, _, _, _⟩) (v := ?_) rfl (Or.inl ⟨by rfl, ?_⟩) ?_
              rotate_left
              · (rintro X ⟨⟨a0, a1, a2⟩, ⟨a3, a4, a5⟩, ⟨a6, a7, a8⟩, ⟨a9, a10, a11⟩⟩; go_simp; try with_reducible rfl)
              try simp only [Act.put, List.setIfInBounds_toArray, List.set_cons_zero, List.set_cons_succ]
              refine order_take (o := ⟨_, _, _, _, _, _⟩) (v := ?_) rfl (Or.inl ⟨by rfl, ?_⟩) ?_
              rotate_left
              · (rintro X ⟨⟨a0, a1, a2⟩, ⟨a3, a4, a5⟩, ⟨a6, a7, a8⟩, ⟨a9, a10, a11⟩⟩; go_simp; try with_reducible rfl)
              try simp only [Act.put, List.setIfInBounds_toArray, List.set_cons_zero, List.set_cons_succ]
              refine order_take (o := ⟨_, _, _, _, _, _⟩) (v := ?_) rfl (Or.inl ⟨by rfl, ?_⟩) ?_
              rotate_left
              · (rintro X ⟨⟨a0, a1, a2⟩, ⟨a3, a4, a5⟩, ⟨a6, a7, a8⟩, ⟨a9, a10, a11⟩⟩; go_simp; try with_reducible rfl)
              try simp only [Act.put, List.setIfInBounds_toArray, List.set_cons_zero, List.set_cons_succ]
              refine order_take (o := ⟨_, _, _, _, _, _⟩) (v := ?_) rfl (Or.inl ⟨by rfl, ?_⟩) ?_
              rotate_left
              · (rintro X ⟨⟨a0, a1, a2⟩, ⟨a3, a4, a5⟩, ⟨a6, a7, a8⟩, ⟨a9, a10, a11⟩⟩; go_simp; try with_reducible rfl)
              try simp only [Act.put, List.setIfInBounds_toArray, List.set_cons_zero, List.set_cons_succ]
              refine order_take (o := ⟨_, _, _, _, _, _⟩) (v := ?_) rfl (Or.inl ⟨by rfl, ?_⟩) ?_
              rotate_left
              · (rintro X ⟨⟨a0, a1, a2⟩, ⟨a3, a4, a5⟩, ⟨a6, a7, a8⟩, ⟨a9, a10, a11⟩⟩; go_simp; try with_reducible rfl)
              try simp only [Act.put, List.setIfInBounds_toArray, List.set_cons_zero, List.set_cons_succ]
              refine order_do (o := ⟨_, _, _, _, _, _⟩) rfl (fun K hK => ?_)
              go_simp
              refine (of_any 5 o1 l1 o2 l2 F1 F2 (.slice p1 F1.len c1) (.slice p2 F2.len c2) v17 (HQ.out v17 BV17).1 (HQ.out v17 BV17).2.1).mono ?_
              rintro e v18 ⟨⟨s91, rfl, hs⟩, hb⟩
              have BV18 := BV17.trans (hb.mono BV17.size)
              have Hs91 := Lib.hid hs
              clear hs
              clear hb BV17 
              refine hK.out _ _ (HKP.out _ BV18) (fun _ => ?_)
              clear hK K
              try simp only [Act.put, List.setIfInBounds_toArray, List.set_cons_zero, List.set_cons_succ]
              refine order_do (o := ⟨_, _, _, _, _, _⟩) rfl (fun K hK => ?_)
              go_simp
              refine (of_any 5 5 0 o3 l3 (two o1 l1 F1 o2 l2 F2) F3 s91 (.slice p3 F3.len c3) v18 Hs91.out (HQ.out v18 BV18).2.2.1).mono ?_
              rintro e v19 ⟨⟨s93, rfl, hs⟩, hb⟩
              have BV19 := BV18.trans (hb.mono BV18.size)
              have Hs93 := Lib.hid hs
              clear hs
              clear hb BV18 Hs91
              refine hK.out _ _ (HKP.out _ BV19) (fun _ => ?_)
              clear hK K
              try simp only [Act.put, List.setIfInBounds_toArray, List.set_cons_zero, List.set_cons_succ]
              refine order_do (o := ⟨_, _, _, _, _, _⟩) rfl (fun K hK => ?_)
              go_simp
              refine (of_any 5 o2 l2 o3 l3 F2 F3 (.slice p2 F2.len c2) (.slice p3 F3.len c3) v19 (HQ.out v19 BV19).2.1 (HQ.out v19 BV19).2.2.1).mono ?_
              rintro e v20 ⟨⟨s97, rfl, hs⟩, hb⟩
              have BV20 := BV19.trans (hb.mono BV19.size)
              replace Hs93 := Lib.hid (Hs93.out.later hb)
              have Hs97 := Lib.hid hs
              clear hs
              clear hb BV19 
              refine hK.out _ _ (HKP.out _ BV20) (fun _ => ?_)
              clear hK K
              try simp only [Act.put, List.setIfInBounds_toArray, List.set_cons_zero, List.set_cons_succ]
              refine order_do (o := ⟨_, _, _, _, _, _⟩) rfl (fun K hK => ?_)
              go_simp
              refine (of_any 5 o1 l1 5 0 F1 (two o2 l2 F2 o3 l3 F3) (.slice p1 F1.len c1) s97 v20 (HQ.out v20 BV20).1 Hs97.out).mono ?_
              rintro e v21 ⟨⟨s98, rfl, hs⟩, hb⟩
              have BV21 := BV20.trans (hb.mono BV20.size)
              replace Hs93 := Lib.hid (Hs93.out.later hb)
              have Hs98 := Lib.hid hs
              clear hs
              clear hb BV20 Hs97
              refine hK.out _ _ (HKP.out _ BV21) (fun _ => ?_)
              clear hK K
              try simp only [Act.put, List.setIfInBounds_toArray, List.set_cons_zero, List.set_cons_succ]
              refine order_do (o := ⟨_, _, _, _, _, _⟩) rfl (fun K hK => ?_)
              go_simp
              refine (E4.out v21 s93 s98 Hs93.out Hs98.out).mono ?_
              rintro e v22 ⟨rfl, hb⟩
              have BV22 := BV21.trans (hb.mono BV21.size)
              clear hb BV21 Hs93 Hs98
              refine hK.out _ _ (HKP.out _ BV22) (fun _ => ?_)
              clear hK K
              try simp only [Act.put, List.setIfInBounds_toArray, List.set_cons_zero, List.set_cons_succ]
              refine order_take (o := ⟨_, _, _, _, _, _⟩) (v := ?_) rfl (Or.inl ⟨by rfl, ?_⟩) ?_
              rotate_left
              · (rintro X ⟨⟨a0, a1, a2⟩, ⟨a3, a4, a5⟩, ⟨a6, a7, a8⟩, ⟨a9, a10, a11⟩⟩; go_simp; try with_reducible rfl)
              try simp only [Act.put, List.setIfInBounds_toArray, List.set_cons_zero, List.set_cons_succ]
              refine order_take (o := ⟨_, _, _, _, _, _⟩) (v := ?_) rfl (Or.inl ⟨by rfl, ?_⟩) ?_
              rotate_left
              · (rintro X ⟨⟨a0, a1, a2⟩, ⟨a3, a4, a5⟩, ⟨a6, a7, a8⟩, ⟨a9, a10, a11⟩⟩; go_simp; try with_reducible rfl)
              try simp only [Act.put, List.setIfInBounds_toArray, List.set_cons_zero, List.set_cons_succ]
              refine order_take (o := ⟨_, _, _, _, _, _⟩) (v := ?_) rfl (Or.inl ⟨by rfl, ?_⟩) ?_
              rotate_left
              · (rintro X ⟨⟨a0, a1, a2⟩, ⟨a3, a4, a5⟩, ⟨a6, a7, a8⟩, ⟨a9, a10, a11⟩⟩; go_simp; try with_reducible rfl)
              try simp only [Act.put, List.setIfInBounds_toArray, List.set_cons_zero, List.set_cons_succ]
              refine order_take (o := ⟨_, _, _, _, _, _⟩) (v := ?_) rfl (Or.inl ⟨by rfl, ?_⟩) ?_
              rotate_left
              · (rintro X ⟨⟨a0, a1, a2⟩, ⟨a3, a4, a5⟩, ⟨a6, a7, a8⟩, ⟨a9, a10, a11⟩⟩; go_simp; try with_reducible rfl)
              try simp only [Act.put, List.setIfInBounds_toArray, List.set_cons_zero, List.set_cons_succ]
              refine order_take (o := ⟨_, _, _, _, _, _⟩) (v := ?_) rfl (Or.inl ⟨by rfl, ?_⟩) ?_
              rotate_left
              · (rintro X ⟨⟨a0, a1, a2⟩, ⟨a3, a4, a5⟩, ⟨a6, a7, a8⟩, ⟨a9, a10, a11⟩⟩; go_simp; try with_reducible rfl)
              try simp only [Act.put, List.setIfInBounds_toArray, List.set_cons_zero, List.set_cons_succ]
              refine order_do (o := ⟨_, _, _, _, _, _⟩) rfl (fun K hK => ?_)
              go_simp
              refine (E5.out v22 (.slice (some ⟨bn + 1, 0, none⟩) 1 1) (.slice p1 F1.len c1) (HQ.out v22 BV22).2.2.2 (HQ.out v22 BV22).1).mono ?_
              rintro e v23 ⟨rfl, hb⟩
              have BV23 := BV22.trans (hb.mono BV22.size)
              clear hb BV22 
              refine hK.out _ _ (HKP.out _ BV23) (fun _ => ?_)
              clear hK K
              try simp only [Act.put, List.setIfInBounds_toArray, List.set_cons_zero, List.set_cons_succ]
              refine order_take (o := ⟨_, _, _, _, _, _⟩) (v := ?_) rfl (Or.inl ⟨by rfl, ?_⟩) ?_
              rotate_left
              · (rintro X ⟨⟨a0, a1, a2⟩, ⟨a3, a4, a5⟩, ⟨a6, a7, a8⟩, ⟨a9, a10, a11⟩⟩; go_simp; try with_reducible rfl)
              try simp only [Act.put, List.setIfInBounds_toArray, List.set_cons_zero, List.set_cons_succ]
              refine order_take (o := ⟨_, _, _, _, _, _⟩) (v := ?_) rfl (Or.inl ⟨by rfl, ?_⟩) ?_
              rotate_left
              · (rintro X ⟨⟨a0, a1, a2⟩, ⟨a3, a4, a5⟩, ⟨a6, a7, a8⟩, ⟨a9, a10, a11⟩⟩; go_simp; try with_reducible rfl)
              try simp only [Act.put, List.setIfInBounds_toArray, List.set_cons_zero, List.set_cons_succ]
              refine order_do (o := ⟨_, _, _, _, _, _⟩) rfl (fun K hK => ?_)
              go_simp
              refine (works_any v23).mono ?_
              rintro e v24 ⟨rfl, hb⟩
              have BV24 := BV23.trans (hb.mono BV23.size)
              clear hb BV23 
              refine hK.out _ _ (HKP.out _ BV24) (fun _ => ?_)
              clear hK K
              try simp only [Act.put, List.setIfInBounds_toArray, List.set_cons_zero, List.set_cons_succ]
              refine order_take (o := ⟨_, _, _, _, _, _⟩) (v := ?_) rfl (Or.inl ⟨by rfl, ?_⟩) ?_
              rotate_left
              · (rintro X ⟨⟨a0, a1, a2⟩, ⟨a3, a4, a5⟩, ⟨a6, a7, a8⟩, ⟨a9, a10, a11⟩⟩; go_simp; try with_reducible rfl)
              try simp only [Act.put, List.setIfInBounds_toArray, List.set_cons_zero, List.set_cons_succ]
              refine order_take (o := ⟨_, _, _, _, _, _⟩) (v := ?_) rfl (Or.inl ⟨by rfl, ?_⟩) ?_
              rotate_left
              · (rintro X ⟨⟨a0, a1, a2⟩, ⟨a3, a4, a5⟩, ⟨a6, a7, a8⟩, ⟨a9, a10, a11⟩⟩; go_simp; try with_reducible rfl)
              try simp only [Act.put, List.setIfInBounds_toArray, List.set_cons_zero, List.set_cons_succ]
              simp only [inOrder]
              go_wp2
              go_ret
              exact ⟨rfl, HBV.out.trans (BV24.mono HBV.out.size)⟩
#print axioms laws_any
end Go.Proofs.YthbkdbnalkeieaaDoor
