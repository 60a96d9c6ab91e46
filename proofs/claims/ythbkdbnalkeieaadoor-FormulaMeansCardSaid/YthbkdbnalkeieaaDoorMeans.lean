/- The walk of FormulaMeans: it answers true. -/
import Derived.Test.YthbkdbnalkeieaaDoorBitsP
namespace Go.Proofs.YthbkdbnalkeieaaDoor
open Go.RowKit Go.Sort Go.Shelf

set_option maxHeartbeats 8000000 in
set_option maxRecDepth 100000 in
theorem means_any (o1 l1 o2 l2 : Int) (F1 F2 : Fms) (s1 s2 : Value) (m om : Nat) (hm : m < 65536) (w : World) (q1 : SlIs w s1 F1) (q2 : SlIs w s2 F2) :
    Calls Tryd.prog 5 #[.agg #[.int .i64 o1, .int .i64 l1, s1], .agg #[.int .i64 o2, .int .i64 l2, s2], .int .u16 m, .int .u16 om] w fun e w' => e = .returned (.bool true) ∧ Below w.heap.size w w' := by
  obtain ⟨p1, c1, rfl⟩ := q1.slice
  obtain ⟨p2, c2, rfl⟩ := q2.slice
  obtain ⟨b0, hb0⟩ : ∃ b0, b0 = w.heap.size := ⟨_, rfl⟩
  obtain ⟨W, hW⟩ : ∃ W, W = (w.alloc (.cells #[.int .i64 o1, .int .i64 l1, .slice p1 F1.len c1] 26)).alloc (.cells #[.int .i64 o2, .int .i64 l2, .slice p2 F2.len c2] 26) := ⟨_, rfl⟩
  have hB : Below w.heap.size w W := by rw [hW]; exact ((Below.refl _ w).alloc (Nat.le_refl _) _).alloc (by simp) _
  have k1 : W.heap[b0]? = some (.cells #[In o1, In l1, .slice p1 F1.len c1] 26 (0, 0)) := by rw [hW, hb0]; exact block_alloc_old _ (block_alloc_new w _)
  have k2 : W.heap[b0 + 1]? = some (.cells #[In o2, In l2, .slice p2 F2.len c2] 26 (0, 0)) := by
    have := block_alloc_new (w.alloc (.cells #[.int .i64 o1, .int .i64 l1, .slice p1 F1.len c1] 26)) (.cells #[.int .i64 o2, .int .i64 l2, .slice p2 F2.len c2] 26)
    rw [World.size_alloc] at this
    rw [hW, hb0]
    exact this
  have HB0 := Lib.hid hB
  have A10 := Lib.hid (show FormAt W b0 o1 l1 F1 p1 c1 from ⟨k1, q1.later hB⟩)
  have A20 := Lib.hid (show FormAt W (b0 + 1) o2 l2 F2 p2 c2 from ⟨k2, q2.later hB⟩)
  clear hB k1 k2 q1 q2
  go_enter Tryd.func5, Tryd.ntmps5
  go_upto_region 1 with fail
  rw [← hW, ← hb0]
  clear hW hb0
  obtain ⟨a0, a1, a2⟩ := A10.out.c
  obtain ⟨a3, a4, a5⟩ := A20.out.c
  go_wp2_with fail
  clear a0 a1 a2 a3 a4 a5
  refine (light_any o1 l1 F1 (.slice p1 F1.len c1) W A10.out.2).mono ?_
  rintro e w1 ⟨rfl, hb⟩
  have HB1 := Lib.hid (HB0.out.trans (hb.mono HB0.out.size))
  have A11 := Lib.hid (A10.out.later hb)
  have A21 := Lib.hid (A20.out.later hb)
  clear HB0 A10 A20
  clear hb
  cases hL1 : lightF F1 with
  | false =>
    go_wp2_with fail
    refine (works_any _).mono ?_
    rintro e wz ⟨rfl, hbz⟩
    go_wp2
    go_ret
    exact ⟨rfl, HB1.out.trans (hbz.mono HB1.out.size)⟩
  | true =>
    have hz1 := light_size hL1
    clear hL1
    obtain ⟨a0, a1, a2⟩ := A11.out.c
    obtain ⟨a3, a4, a5⟩ := A21.out.c
    go_wp2_with fail
    clear a0 a1 a2 a3 a4 a5
    refine (light_any o2 l2 F2 (.slice p2 F2.len c2) w1 A21.out.2).mono ?_
    rintro e w2 ⟨rfl, hb⟩
    have HB2 := Lib.hid (HB1.out.trans (hb.mono HB1.out.size))
    have A12 := Lib.hid (A11.out.later hb)
    have A22 := Lib.hid (A21.out.later hb)
    clear HB1 A11 A21
    clear hb
    cases hL2 : lightF F2 with
    | false =>
      go_wp2_with fail
      refine (works_any _).mono ?_
      rintro e wz ⟨rfl, hbz⟩
      go_wp2
      go_ret
      exact ⟨rfl, HB2.out.trans (hbz.mono HB2.out.size)⟩
    | true =>
      have hz2 := light_size hL2
      clear hL2
      obtain ⟨a0, a1, a2⟩ := A12.out.c
      obtain ⟨a3, a4, a5⟩ := A22.out.c
      go_wp2_with fail
      clear a0 a1 a2 a3 a4 a5
      obtain ⟨x1, hx1⟩ : ∃ x, x = chk o1 l1 F1 := ⟨_, rfl⟩
      refine (check_any o1 l1 F1 (.slice p1 F1.len c1) w2 (by omega) A12.out.2).mono ?_
      rw [← hx1]
      rintro e w3 ⟨rfl, hb⟩
      have HB3 := Lib.hid (HB2.out.trans (hb.mono HB2.out.size))
      have A13 := Lib.hid (A12.out.later hb)
      have A23 := Lib.hid (A22.out.later hb)
      clear HB2 A12 A22
      clear hb
      have HX1 := Lib.hid hx1
      clear hx1
      rcases (by omega : x1 ≠ 0 ∨ x1 = 0) with hx | hx
      · have e1 : (x1 != 0) = true := by simp [hx]
        clear hx
        go_wp2_with fail
        refine (works_any _).mono ?_
        rintro e wz ⟨rfl, hbz⟩
        go_wp2
        go_ret
        exact ⟨rfl, HB3.out.trans (hbz.mono HB3.out.size)⟩
      · subst hx
        obtain ⟨a0, a1, a2⟩ := A13.out.c
        obtain ⟨a3, a4, a5⟩ := A23.out.c
        go_wp2_with fail
        clear a0 a1 a2 a3 a4 a5
        obtain ⟨x2, hx2⟩ : ∃ x, x = chk o2 l2 F2 := ⟨_, rfl⟩
        refine (check_any o2 l2 F2 (.slice p2 F2.len c2) w3 (by omega) A23.out.2).mono ?_
        rw [← hx2]
        rintro e w4 ⟨rfl, hb⟩
        have HB4 := Lib.hid (HB3.out.trans (hb.mono HB3.out.size))
        have A14 := Lib.hid (A13.out.later hb)
        have A24 := Lib.hid (A23.out.later hb)
        clear HB3 A13 A23
        clear hb
        have HX2 := Lib.hid hx2
        clear hx2
        rcases (by omega : x2 ≠ 0 ∨ x2 = 0) with hx | hx
        · have e1 : (x2 != 0) = true := by simp [hx]
          clear hx
          go_wp2_with fail
          refine (works_any _).mono ?_
          rintro e wz ⟨rfl, hbz⟩
          go_wp2
          go_ret
          exact ⟨rfl, HB4.out.trans (hbz.mono HB4.out.size)⟩
        · subst hx
          obtain ⟨a, ha⟩ : ∃ a, a = hld o1 l1 F1 m := ⟨_, rfl⟩
          obtain ⟨b, hb0⟩ : ∃ b, b = hld o2 l2 F2 m := ⟨_, rfl⟩
          have hha : holdsE o1 l1 F1 m = a := by unfold holdsE; rw [← HX1.out, if_pos rfl, ha]
          have hhb : holdsE o2 l2 F2 m = b := by unfold holdsE; rw [← HX2.out, if_pos rfl, hb0]
          have HA := Lib.hid ha
          have HBb := Lib.hid hb0
          have HHA := Lib.hid hha
          have HHB := Lib.hid hhb
          clear ha hb0 hha hhb
          obtain ⟨a0, a1, a2⟩ := A14.out.c
          obtain ⟨a3, a4, a5⟩ := A24.out.c
          go_wp2_with fail
          clear a0 a1 a2 a3 a4 a5
          refine (Holds_any m hm o1 l1 F1 (.slice p1 F1.len c1) w4 (by omega) A14.out.2).mono ?_
          rw [HHA.out, ← HX1.out]
          rintro e w5 ⟨rfl, hb⟩
          have HB5 := Lib.hid (HB4.out.trans (hb.mono HB4.out.size))
          have A15 := Lib.hid (A14.out.later hb)
          have A25 := Lib.hid (A24.out.later hb)
          clear HB4 A14 A24
          clear hb
          obtain ⟨a0, a1, a2⟩ := A15.out.c
          obtain ⟨a3, a4, a5⟩ := A25.out.c
          go_wp2_with fail
          clear a0 a1 a2 a3 a4 a5
          refine (Holds_any m hm o2 l2 F2 (.slice p2 F2.len c2) w5 (by omega) A25.out.2).mono ?_
          rw [HHB.out, ← HX2.out]
          rintro e w6 ⟨rfl, hb⟩
          have HB6 := Lib.hid (HB5.out.trans (hb.mono HB5.out.size))
          have A16 := Lib.hid (A15.out.later hb)
          have A26 := Lib.hid (A25.out.later hb)
          clear HB5 A15 A25
          clear hb
          have hM1 := chk_meas HX1.out.symm
          have hM2 := chk_meas HX2.out.symm
          have HM1 := Lib.hid hM1
          have HM2 := Lib.hid hM2
          clear hM1 hM2
          obtain ⟨a0, a1, a2⟩ := A16.out.c
          obtain ⟨a3, a4, a5⟩ := A26.out.c
          go_upto_region 6 with fail
          clear a0 a1 a2 a3 a4 a5
          obtain ⟨bb, hbb⟩ : ∃ bb, bb = w6.heap.size := ⟨_, rfl⟩
          obtain ⟨V, hV⟩ : ∃ V, V = w6.alloc (.cells #[In o1, In l1, .slice p1 F1.len c1, In o2, In l2, .slice p2 F2.len c2] 26) := ⟨_, rfl⟩
          have hbV : Below w6.heap.size w6 V := by rw [hV]; exact (Below.refl _ w6).alloc (Nat.le_refl _) _
          have kbb : V.heap[bb]? = some (.cells #[In o1, In l1, .slice p1 F1.len c1, In o2, In l2, .slice p2 F2.len c2] 26 (0, 0)) := by rw [hV, hbb]; exact block_alloc_new w6 _
          rw [← hbb, ← hV]
          clear hV hbb
          have HB7 := Lib.hid (HB6.out.trans (hbV.mono HB6.out.size))
          have A17 := Lib.hid (A16.out.later hbV)
          have A27 := Lib.hid (A26.out.later hbV)
          clear HB6 A16 A26
          have KB := Lib.hid kbb
          clear kbb hbV
          go_cut [14] from 63 to 81 (fun s14 wx => s14 = .slice (some ⟨V.heap.size, 0, none⟩) 5 5 ∧ wx = V.alloc (.cells #[.bool (saidB a b 0), .bool (saidB a b 1), .bool (saidB a b 2), .bool (saidB a b 3), .bool (saidB a b 4)] 4))
          case first =>
            cases a <;> cases b
            all_goals (go_wp2_with fail; go_meet; exact ⟨rfl, rfl⟩)
          case rest =>
            obtain ⟨rfl, hwx⟩ := hcut
            obtain ⟨bs, hbs⟩ : ∃ bs, bs = V.heap.size := ⟨_, rfl⟩
            rw [← hbs]
            have hbU : Below V.heap.size V wc := by rw [hwx]; exact (Below.refl _ V).alloc (Nat.le_refl _) _
            have kbs : wc.heap[bs]? = some (.cells #[.bool (saidB a b 0), .bool (saidB a b 1), .bool (saidB a b 2), .bool (saidB a b 3), .bool (saidB a b 4)] 4 (0, 0)) := by rw [hwx, hbs]; exact block_alloc_new V _
            have KBU := Lib.hid ((hbU.block bb (lt_of_block KB.out)).trans KB.out)
            clear KB hwx hbs
            have HB8 := Lib.hid (HB7.out.trans (hbU.mono HB7.out.size))
            have A18 := Lib.hid (A17.out.later hbU)
            have A28 := Lib.hid (A27.out.later hbU)
            clear HB7 A17 A27
            have KS := Lib.hid kbs
            clear kbs hbU
            go_wp2_with fail
            have hz : (two o1 l1 F1 o2 l2 F2).size < 10000 := by simp [two, Fms.size]; omega
            have hz1b : (Fms.cons o1 l1 F1 .nil).size < 10000 := by simp [Fms.size]; omega
            have hz2b : (Fms.cons o2 l2 F2 .nil).size < 10000 := by simp [Fms.size]; omega
            have HZ := Lib.hid hz
            have HZ1 := Lib.hid hz1b
            have HZ2 := Lib.hid hz2b
            clear hz hz1b hz2b
            go_loopg [15] 6 (fun gg s15 wr => ∃ k : Nat, s15 = .int .i64 k ∧ k ≤ 5 ∧ 6 ≤ gg + k ∧ Hid (Below wc.heap.size wc wr))
            case atStart => exact ⟨0, rfl, by omega, by omega, Lib.hid (Below.refl _ _)⟩
            case round =>
              obtain ⟨k, rfl, hk, hgk, HBr⟩ := hrel
              have kb := (HBr.out.block bb (lt_of_block KBU.out)).trans KBU.out
              have ks := (HBr.out.block bs (lt_of_block KS.out)).trans KS.out
              have HS2 := Lib.hid (two_at kb (A18.out.later HBr.out).2 (A28.out.later HBr.out).2 2)
              have HS1 := Lib.hid (two_at1 kb (A18.out.later HBr.out).2 2)
              have KSr := Lib.hid ks
              clear kb ks
              by_cases hlt : k < 5
              · have hlt' : (k : Int) < 5 := by omega
                have hcs : (#[.bool (saidB a b 0), .bool (saidB a b 1), .bool (saidB a b 2), .bool (saidB a b 3), .bool (saidB a b 4)] : Array Value)[k]? = some (.bool (saidB a b k)) := by
                  rcases (by omega : k = 0 ∨ k = 1 ∨ k = 2 ∨ k = 3 ∨ k = 4) with rfl | rfl | rfl | rfl | rfl <;> rfl
                have HCS := Lib.hid hcs
                clear hcs
                by_cases hk0 : k = 0
                · subst hk0
                  obtain ⟨z, hzz⟩ : ∃ z, z = chk 2 0 (.cons o1 l1 F1 .nil) := ⟨_, rfl⟩
                  obtain ⟨r, hrr⟩ : ∃ r, r = holdsE 2 0 (.cons o1 l1 F1 .nil) m := ⟨_, rfl⟩
                  have hbX : Below wr.heap.size wr (wr.alloc (.cells #[.int .i64 2, .int .i64 0, .slice (some ⟨bb, 0, none⟩) 1 2] 26)) := (Below.refl _ wr).alloc (Nat.le_refl _) _
                  have HH := Lib.hid (Holds_any m hm 2 0 (.cons o1 l1 F1 .nil) (.slice (some ⟨bb, 0, none⟩) 1 2) _ (by have := HZ1.out; omega) (HS1.out.later hbX))
                  rw [← hzz, ← hrr] at HH
                  have hz := chk_not (HX1.out.symm : chk o1 l1 F1 = 0)
                  rw [← hzz] at hz
                  have hr : z = 0 → r = saidB a b 0 := fun e => by rw [hrr]; unfold holdsE; rw [if_pos (hzz.symm.trans e), hld_not, ← HA.out]; rfl
                  clear hzz hrr
                  have HBX := Lib.hid hbX
                  have HR := Lib.hid hr
                  have HZz := Lib.hid hz
                  clear hbX hr hz
                  go_wp2_with fail
                  refine HH.out.mono ?_
                  rintro e wh ⟨rfl, hbh⟩
                  have hbh2 := HBX.out.trans (hbh.mono HBX.out.size)
                  have cS := cell_of (o := 0) (v := .bool (saidB a b 0)) ((hbh2.block bs (lt_of_block KSr.out)).trans KSr.out) HCS.out
                  have HBH := Lib.hid (HBr.out.trans (hbh2.mono HBr.out.size))
                  clear hbh hbh2 HH HBX
                  rcases HZz.out with h0 | h0 | h0
                  · have hrr := HR.out h0
                    subst h0
                    rw [hrr]
                    clear hrr
                    go_wp2_with (go_at_call 12; refine (num_any _ _).mono ?_; rintro e w10 ⟨rfl, rfl⟩)
                    go_roundg (5 - 0)
                    case measure => omega
                    case rel => exact ⟨0 + 1, by simp, by omega, by omega, HBH⟩
                  · subst h0
                    go_wp2_with (go_at_call 12; refine (num_any _ _).mono ?_; rintro e w10 ⟨rfl, rfl⟩)
                    go_roundg (5 - 0)
                    case measure => omega
                    case rel => exact ⟨0 + 1, by simp, by omega, by omega, HBH⟩
                  · subst h0
                    go_wp2_with (go_at_call 12; refine (num_any _ _).mono ?_; rintro e w10 ⟨rfl, rfl⟩)
                    go_roundg (5 - 0)
                    case measure => omega
                    case rel => exact ⟨0 + 1, by simp, by omega, by omega, HBH⟩
                · have ek : ((k : Int) == 0) = false := by simp; omega
                  have ew : (2 : Int) + k ≤ 6 := by omega
                  obtain ⟨z, hzz⟩ : ∃ z, z = chk (2 + k) 0 (two o1 l1 F1 o2 l2 F2) := ⟨_, rfl⟩
                  obtain ⟨r, hrr⟩ : ∃ r, r = holdsE (2 + k) 0 (two o1 l1 F1 o2 l2 F2) m := ⟨_, rfl⟩
                  have hbX : Below wr.heap.size wr (wr.alloc (.cells #[.int .i64 (2 + k), .int .i64 0, .slice (some ⟨bb, 0, none⟩) 2 2] 26)) := (Below.refl _ wr).alloc (Nat.le_refl _) _
                  have HH := Lib.hid (Holds_any m hm (2 + k) 0 (two o1 l1 F1 o2 l2 F2) (.slice (some ⟨bb, 0, none⟩) 2 2) _ (by have := HZ.out; omega) (HS2.out.later hbX))
                  rw [← hzz, ← hrr] at HH
                  have hz := chk_two (op := 2 + k) (by omega) (by omega) HM1.out HM2.out
                  rw [← hzz] at hz
                  have hr : z = 0 → r = saidB a b k := fun e => by rw [hrr]; unfold holdsE; rw [if_pos (hzz.symm.trans e), hld_two _ _ _ _ _ _ _ m (by omega) (by omega), ← HA.out, ← HBb.out]; unfold saidB; rw [if_neg hk0]
                  clear hzz hrr hk0
                  have HBX := Lib.hid hbX
                  have HR := Lib.hid hr
                  have HZz := Lib.hid hz
                  clear hbX hr hz
                  go_wp2_with fail
                  refine HH.out.mono ?_
                  rintro e wh ⟨rfl, hbh⟩
                  have hbh2 := HBX.out.trans (hbh.mono HBX.out.size)
                  have cS := cell_of (o := k) (v := .bool (saidB a b k)) ((hbh2.block bs (lt_of_block KSr.out)).trans KSr.out) HCS.out
                  have HBH := Lib.hid (HBr.out.trans (hbh2.mono HBr.out.size))
                  clear hbh hbh2 HH HBX
                  rcases HZz.out with h0 | h0 | h0
                  · have hrr := HR.out h0
                    subst h0
                    rw [hrr]
                    clear hrr
                    go_wp2_with (go_at_call 12; refine (num_any _ _).mono ?_; rintro e w10 ⟨rfl, rfl⟩)
                    go_roundg (5 - k)
                    case measure => omega
                    case rel => exact ⟨k + 1, by simp, by omega, by omega, HBH⟩
                  · subst h0
                    go_wp2_with (go_at_call 12; refine (num_any _ _).mono ?_; rintro e w10 ⟨rfl, rfl⟩)
                    go_roundg (5 - k)
                    case measure => omega
                    case rel => exact ⟨k + 1, by simp, by omega, by omega, HBH⟩
                  · subst h0
                    go_wp2_with (go_at_call 12; refine (num_any _ _).mono ?_; rintro e w10 ⟨rfl, rfl⟩)
                    go_roundg (5 - k)
                    case measure => omega
                    case rel => exact ⟨k + 1, by simp, by omega, by omega, HBH⟩
              · obtain rfl : k = 5 := by omega
                have f1 := A18.out.later HBr.out
                have f2 := A28.out.later HBr.out
                have kb := (HBr.out.block bb (lt_of_block KBU.out)).trans KBU.out
                have hS3 := two_at3 kb f2.2 1
                have HBw := Lib.hid (HB8.out.trans (HBr.out.mono HB8.out.size))
                obtain ⟨C, hC⟩ : ∃ C, C = wr.alloc (.cells #[In o1, In l1, .slice p1 F1.len c1, .int .i64 2, .int .i64 0, .slice (some ⟨bb, 3, none⟩) 1 1] 26) := ⟨_, rfl⟩
                have hbC : Below wr.heap.size wr C := by rw [hC]; exact (Below.refl _ wr).alloc (Nat.le_refl _) _
                obtain ⟨kc, hkc⟩ : ∃ kc, kc = wr.heap.size := ⟨_, rfl⟩
                have kC : C.heap[kc]? = some (.cells #[In o1, In l1, .slice p1 F1.len c1, In 2, In 0, .slice (some ⟨bb, 3, none⟩) 1 1] 26 (0, 0)) := by rw [hC, hkc]; exact block_alloc_new wr _
                have hSC : SlIs C (.slice (some ⟨kc, 0, none⟩) 2 2) (two o1 l1 F1 2 0 (.cons o2 l2 F2 .nil)) := two_at kC (f1.2.later hbC) (hS3.later hbC) 2
                have hCd : Below C.heap.size C C.drew := (Below.refl _ C).drew
                have hzm : (two o1 l1 F1 2 0 (.cons o2 l2 F2 .nil)).size < 10000 := by simp [two, Fms.size]; omega
                obtain ⟨z, hzz⟩ : ∃ z, z = chk 3 0 (two o1 l1 F1 2 0 (.cons o2 l2 F2 .nil)) := ⟨_, rfl⟩
                obtain ⟨r, hrr⟩ : ∃ r, r = holdsE 3 0 (two o1 l1 F1 2 0 (.cons o2 l2 F2 .nil)) m := ⟨_, rfl⟩
                have HH := Lib.hid (Holds_any m hm 3 0 (two o1 l1 F1 2 0 (.cons o2 l2 F2 .nil)) (.slice (some ⟨kc, 0, none⟩) 2 2) C.drew (by omega) (hSC.later hCd))
                rw [← hzz, ← hrr] at HH
                have hz := chk_two (op := 3) (by omega) (by omega) HM1.out (meas_not HM2.out)
                rw [← hzz] at hz
                have hr : z = 0 → r = saidB a b 2 := fun e => by rw [hrr]; unfold holdsE; rw [if_pos (hzz.symm.trans e), hld_two _ _ _ _ _ _ _ m (by omega) (by omega), hld_not, ← HA.out, ← HBb.out]; rfl
                have HBC := Lib.hid (hbC.trans (hCd.mono hbC.size))
                have HBD := Lib.hid (show Below wr.heap.size wr wr.drew from (Below.refl _ wr).drew)
                have HKP := Lib.hid (show ∀ X, Below wr.heap.size wr X → X.cell? ⟨b0, 0, none⟩ = some (In o1) ∧ X.cell? ⟨b0, 1, none⟩ = some (In l1) ∧ X.cell? ⟨b0, 2, none⟩ = some (.slice p1 F1.len c1) from fun X h => (f1.later h).c)
                have HZ3 := Lib.hid hz
                have HR3 := Lib.hid hr
                have FF1 := Lib.hid f1
                have FF2 := Lib.hid f2
                have KBr := Lib.hid kb
                clear hzz hrr hz hr hbC kC hSC hCd hzm hS3 f1 f2 kb
                go_upto_region 16 with fail
                go_region_held3 (fun X => X.cell? ⟨b0, 0, none⟩ = some (In o1) ∧ X.cell? ⟨b0, 1, none⟩ = some (In l1) ∧ X.cell? ⟨b0, 2, none⟩ = some (.slice p1 F1.len c1))
                  (first | exact HKP.out _ HBD.out | exact HKP.out _ (hC ▸ HBC.out) | exact HKP.out _ hbm)
                  ((go_at_call 17; rw [← hkc, ← hC]; refine HH.out.mono ?_; rintro e wm ⟨rfl, hbh⟩; have hbm := HBC.out.trans (hbh.mono HBC.out.size)))
                have FM1 := Lib.hid (FF1.out.later hbm)
                have FM2 := Lib.hid (FF2.out.later hbm)
                have KBm := Lib.hid ((hbm.block bb (lt_of_block KBr.out)).trans KBr.out)
                have hbs := HBr.out.trans (hbm.mono HBr.out.size)
                have KSm := Lib.hid ((hbs.block bs (lt_of_block KS.out)).trans KS.out)
                have HBm := Lib.hid (HBw.out.trans (hbm.mono HBw.out.size))
                clear HBw HKP hbm hbh hbs HH HBC HBD hC hkc KBr FF1 FF2
                obtain ⟨C2, hC2⟩ : ∃ C, C = wm.alloc (.cells #[.int .i64 6, .int .i64 0, .slice (some ⟨bb, 0, none⟩) 2 2] 26) := ⟨_, rfl⟩
                have hbC : Below wm.heap.size wm C2 := by rw [hC2]; exact (Below.refl _ wm).alloc (Nat.le_refl _) _
                obtain ⟨kd, hkd⟩ : ∃ kc, kc = wm.heap.size := ⟨_, rfl⟩
                have kC : C2.heap[kd]? = some (.cells #[In 6, In 0, .slice (some ⟨bb, 0, none⟩) 2 2] 26 (0, 0)) := by rw [hC2, hkd]; exact block_alloc_new wm _
                have hSC : SlIs C2 (.slice (some ⟨kd, 0, none⟩) 1 1) (.cons 6 0 (two o1 l1 F1 o2 l2 F2) .nil) := .inr ⟨kd, 0, 1, rfl, ⟨_, cell_of kC rfl, cell_of kC rfl, cell_of kC rfl, (two_at KBm.out FM1.out.2 FM2.out.2 2).later hbC⟩, trivial⟩
                have hzm : (Fms.cons 6 0 (two o1 l1 F1 o2 l2 F2) .nil).size < 10000 := by simp [two, Fms.size]; omega
                obtain ⟨z2, hzz⟩ : ∃ z, z = chk 2 0 (.cons 6 0 (two o1 l1 F1 o2 l2 F2) .nil) := ⟨_, rfl⟩
                obtain ⟨r2, hrr⟩ : ∃ r, r = holdsE 2 0 (.cons 6 0 (two o1 l1 F1 o2 l2 F2) .nil) m := ⟨_, rfl⟩
                have HH := Lib.hid (Holds_any m hm 2 0 (.cons 6 0 (two o1 l1 F1 o2 l2 F2) .nil) (.slice (some ⟨kd, 0, none⟩) 1 1) C2 (by omega) hSC)
                rw [← hzz, ← hrr] at HH
                have hz := chk_not' (meas_two (op := 6) (by omega) (by omega) HM1.out HM2.out)
                rw [← hzz] at hz
                have hr : z2 = 0 → r2 = (!a && !b) := fun e => by rw [hrr]; unfold holdsE; rw [if_pos (hzz.symm.trans e), hld_not, hld_two _ _ _ _ _ _ _ m (by omega) (by omega), ← HA.out, ← HBb.out]; cases a <;> cases b <;> rfl
                have HBC := Lib.hid hbC
                have HZ4 := Lib.hid hz
                have HR4 := Lib.hid hr
                clear hzz hrr hz hr hbC kC hSC hzm
                go_wp2_with fail
                rw [← hkd, ← hC2]
                refine HH.out.mono ?_
                rintro e wn ⟨rfl, hbh⟩
                have hbm := HBC.out.trans (hbh.mono HBC.out.size)
                have HBn := Lib.hid (HBm.out.trans (hbm.mono HBm.out.size))
                have FN1 := Lib.hid (FM1.out.later hbm)
                have KSn := Lib.hid ((hbm.block bs (lt_of_block KSm.out)).trans KSm.out)
                clear HH HBC hbh hbm hC2 hkd KBm FM1 FM2 KSm HBm
                go_upto_region 18 with fail
                go_cut [19, 20, 21, 22, 171] from 127 to 171 (fun _ _ _ _ s171 wx => s171 = .bool false ∧ wx = wn)
                case first =>
                  have cS := cell_of (o := 2) (v := .bool (saidB a b 2)) KSn.out rfl
                  rcases (by omega : z ≠ 0 ∨ z = 0) with h0 | h0
                  rotate_left
                  · have hrr := HR3.out h0
                    subst h0
                    rw [hrr]
                    clear hrr
                    rcases (by omega : z2 ≠ 0 ∨ z2 = 0) with h2 | h2
                    · have ez2 : (z2 == 0) = false := by simp [h2]
                      clear h2
                      go_wp2_with (go_at_call 12; refine (num_any _ _).mono ?_; rintro e w10 ⟨rfl, rfl⟩)
                      go_meet
                      exact ⟨rfl, rfl⟩
                    · have hrr := HR4.out h2
                      subst h2
                      rw [hrr]
                      clear hrr
                      cases a <;> cases b
                      all_goals
                        go_wp2_with (go_at_call 12; refine (num_any _ _).mono ?_; rintro e w10 ⟨rfl, rfl⟩)
                        go_meet
                        exact ⟨rfl, rfl⟩
                  · have ez : (z == 0) = false := by simp [h0]
                    clear h0
                    rcases (by omega : z2 ≠ 0 ∨ z2 = 0) with h2 | h2
                    · have ez2 : (z2 == 0) = false := by simp [h2]
                      clear h2
                      go_wp2_with (go_at_call 12; refine (num_any _ _).mono ?_; rintro e w10 ⟨rfl, rfl⟩)
                      go_meet
                      exact ⟨rfl, rfl⟩
                    · have hrr := HR4.out h2
                      subst h2
                      rw [hrr]
                      clear hrr
                      cases a <;> cases b
                      all_goals
                        go_wp2_with (go_at_call 12; refine (num_any _ _).mono ?_; rintro e w10 ⟨rfl, rfl⟩)
                        go_meet
                        exact ⟨rfl, rfl⟩
                case rest =>
                  obtain ⟨rfl, hwc⟩ := hcut
                  rw [hwc]
                  clear hwc
                  obtain ⟨a0, a1, a2⟩ := FN1.out.c
                  go_wp2_with fail
                  obtain ⟨ls, hls⟩ : ∃ ls, ls = lyS o1 l1 F1 := ⟨_, rfl⟩
                  have hLL := Layers_any o1 l1 F1 (.slice p1 F1.len c1) wn HX1.out.symm (by omega) FN1.out.2
                  rw [← hls] at hLL
                  have hlr : ∀ x ∈ ls, 0 ≤ x ∧ x < 16 := fun x hx => ly_range HM1.out x ((mem_lyS _ _ _ _).1 (hls ▸ hx))
                  have hla : ∀ x ∈ ly o1 l1 F1, x ∈ ls := fun x hx => hls ▸ (mem_lyS _ _ _ _).2 hx
                  have hln : ls.length ≤ 10000 := by have := lyS_le o1 l1 F1; rw [hls]; omega
                  clear hls
                  refine hLL.mono ?_
                  rintro e wl ⟨pl, cl, rfl, hcells, hbl⟩
                  have HBl := Lib.hid (HBn.out.trans (hbl.mono HBn.out.size))
                  have FL1 := Lib.hid (FN1.out.later hbl)
                  have HC := Lib.hid hcells
                  have HLR := Lib.hid hlr
                  have HLA := Lib.hid hla
                  clear hcells hbl hlr hla hLL a0 a1 a2
                  go_wp2_with fail
                  go_loopg [25, 26] (ls.length + 1) (fun gg s25 s26 wr => ∃ (q i : Nat), s25 = .int .u16 q ∧ s26 = .int .i64 i ∧ i ≤ ls.length ∧ ls.length + 1 ≤ gg + i ∧ q < 65536 ∧ wr = wl ∧ Hid (∀ j x, j < i → ls[j]? = some x → q.testBit x.toNat = true))
                  case atStart => exact ⟨0, 0, rfl, rfl, Nat.zero_le _, by omega, by omega, rfl, Lib.hid (fun j x h => absurd h (by omega))⟩
                  case round =>
                    obtain ⟨q, i, rfl, rfl, hi, hgk, hq, rfl, HQ⟩ := hrel
                    by_cases hlt : i < ls.length
                    · have hlt' : (i : Int) < (ls.length : Int) := by omega
                      obtain ⟨x, hx⟩ : ∃ x, ls[i]? = some x := ⟨_, List.getElem?_eq_getElem hlt⟩
                      obtain ⟨bl, rfl, cx⟩ := HC.out i x hx
                      obtain ⟨hx0, hx1⟩ := HLR.out x (List.mem_of_getElem? hx)
                      obtain ⟨y, rfl⟩ : ∃ y : Nat, x = y := ⟨x.toNat, by omega⟩
                      have hx0' : decide ((y : Int) < 0) = false := decide_eq_false (by omega)
                      have hx1' : decide (15 < (y : Int)) = false := decide_eq_false (by omega)
                      have HXI := Lib.hid hx
                      clear hx
                      obtain ⟨q1, hq1, hq2, hq3, hq4⟩ := or_step q y hq (by omega)
                      have HQ1 := Lib.hid hq1; have HQ3 := Lib.hid hq3; have HQ4 := Lib.hid hq4; clear hq1 hq3 hq4
                      go_wp2_with fail
                      rw [HQ1.out]
                      go_roundg (ls.length - i)
                      case measure => omega
                      case rel =>
                        refine ⟨q1, i + 1, rfl, by simp, by omega, by omega, hq2, rfl, Lib.hid (fun j x hj hx => ?_)⟩
                        rcases (by omega : j < i ∨ j = i) with hj | hj
                        · exact HQ4.out _ (HQ.out j x hj hx)
                        · subst hj
                          rw [HXI.out] at hx
                          cases hx
                          exact HQ3.out
                    · obtain rfl : i = ls.length := by omega
                      obtain ⟨a0, a1, a2⟩ := FL1.out.c
                      obtain ⟨m1, hm1, hm2, hm3⟩ := mix m om q
                      have hcc : hld o1 l1 F1 m1 = a := by
                        rw [HA.out]
                        refine hld_agree o1 l1 F1 m1 m (fun x hx => ?_)
                        obtain ⟨j, hj, rfl⟩ := List.getElem_of_mem (HLA.out x hx)
                        have hr := HLR.out _ (List.getElem_mem hj)
                        exact hm3 _ (by omega) (HQ.out j _ hj (List.getElem?_eq_getElem hj))
                      have hch : holdsE o1 l1 F1 m1 = a := by unfold holdsE; rw [← HX1.out, if_pos rfl, hcc]
                      have HM := Lib.hid hm1; have HCH := Lib.hid hch; clear hm1 hm3 hcc hch
                      go_wp2_with fail
                      rw [HM.out]
                      refine (Holds_any m1 hm2 o1 l1 F1 (.slice p1 F1.len c1) _ (by omega) FL1.out.2).mono ?_
                      rw [HCH.out, ← HX1.out]
                      rintro e wo ⟨rfl, hbo⟩
                      have HBo := Lib.hid (HBl.out.trans (hbo.mono HBl.out.size))
                      clear hbo a0 a1 a2
                      go_wp2_with fail
                      refine (works_any _).mono ?_
                      rintro e wz ⟨rfl, hbz⟩
                      go_wp2
                      go_ret
                      exact ⟨rfl, HBo.out.trans (hbz.mono HBo.out.size)⟩
#print axioms means_any
end Go.Proofs.YthbkdbnalkeieaaDoor
