/- The law on what a journal keeps: the walk. -/
import Derived.Test.YticconhcphocbaaGreatDoorJ22
namespace Go.Proofs.YticconhcphocbaaGreatDoor
open Go.RowKit Go.Sort Go.Shelf

attribute [local go_sem] Oper.semAt_some

theorem wp_tmps {P : Program} {s : Code} {Q : Exit → Act → World → Prop} {tmps : Array Value} {ds : List Deferred} {w : World} (h : ∀ T, Hid (T = tmps) → s.wp P Q { tmps := T, defers := ds } w) : s.wp P Q { tmps := tmps, defers := ds } w := h tmps (Lib.hid rfl)
theorem one_of (id : Int) (w : World) : Calls Tryz.prog 11 #[.int .i64 id] w fun e w' => e = .returned (.agg #[Ii id, Ii 0, .bool true, Ii id, Ii 0, Ii id, Ii 1, .slice none 0 0]) ∧ Below w.heap.size w w' := one_any id w

set_option maxHeartbeats 8000000 in
set_option maxRecDepth 100000 in
theorem full_in (g st : Nat) (w : World) (hg : 60 ≤ g) (hg' : g ≤ 70) (hs : 120 ≤ st) (hs' : st ≤ 135) :
    CallsIn Fence.wide 8 Tryz.prog 3 #[.int .i64 g, .int .i64 st] w fun e w' => e = .returned (.bool true) ∧ Below w.heap.size w w' := by
  obtain ⟨b0, hb0⟩ : ∃ b0, b0 = w.heap.size := ⟨_, rfl⟩
  obtain ⟨V, hV⟩ : ∃ V, V = w.alloc (.cells #[.bool false] 4) := ⟨_, rfl⟩
  have hvb : V.heap[b0]? = some (.cells #[.bool false] 4 (0, 0)) := by rw [hV, hb0]; exact block_alloc_new w _
  have hbV : Below b0 w V := by rw [hV]; exact (Below.refl _ w).alloc (by omega) _
  have hvs : V.heap.size = b0 + 1 := by rw [hV, hb0]; simp
  refine callsIn_of_wp_marks Tryz.func3 rfl trivial ?_ rfl
  simp only [Tryz.ntmps3, List.size_toArray, List.length_cons, List.length_nil, Nat.reduceAdd, Nat.reduceSub, Array.replicate_succ, Array.replicate_zero, List.push_toArray, List.append_toArray, List.nil_append, List.cons_append]
  refine wpIn_wide.2 ?_
  go_upto_region 1 with fail
  rw [← hV, ← hb0]
  have HB0 := Lib.hid hb0
  have HVB := Lib.hid hvb
  have HBV := Lib.hid hbV
  have HVS := Lib.hid hvs
  clear hV hb0 hvb hbV hvs
  have g1 : ¬ ((g : Int) < 60) := by omega
  have g2 : ¬ (70 < (g : Int)) := by omega
  have g3 : ¬ ((st : Int) < 120) := by omega
  have g4 : ¬ (135 < (st : Int)) := by omega
  go_wp2_with fail
  refine (new_any V).mono ?_
  rintro e w1 ⟨rfl, hj1, hb1⟩
  rw [HVS.out] at hj1 hb1 ⊢
  have HA1 := Lib.hid (show At3 [] w b0 (b0 + 1) false [] (grps 0) w1 from ⟨(hb1.block _ (by have := lt_of_block HVB.out; have := HVS.out; omega)).trans HVB.out, ⟨_, _, hj1, Rw.nil _ _ 9, grp_nil _ _⟩, HBV.out.trans (hb1.mono (by omega)), by omega, fun D hD => by cases hD⟩)
  clear hj1 hb1 g1 g2 g3 g4
  go_wp2_with fail
  have HGR := Lib.hid (show g ≤ 70 from hg')
  go_loopg [6] (g + 1) (fun gg s6 wr => ∃ (k : Nat) (i : Int), s6 = .int .i64 i ∧ i = (k : Int) + 1 ∧ k ≤ g ∧ g + 1 ≤ gg + k ∧ Hid (At3 [] w b0 (b0 + 1) false [] (grps k) wr))
  case atStart => exact ⟨0, 1, rfl, rfl, Nat.zero_le _, by omega, HA1⟩
  case round =>
    obtain ⟨k, i, rfl, hi, hk, hgg, HAr⟩ := hrel
    by_cases hlt : k < g
    · have hig : i ≤ (g : Int) := by omega
      have hi1 : 1 ≤ i := by omega
      have hi2 : i ≤ 1000 := by omega
      have HI := Lib.hid hi
      clear hi
      go_wp2_with fail
      refine HAr.out.begins.mono ?_
      rintro e w2 ⟨rfl, ha2⟩
      have HA2 := Lib.hid ha2
      clear ha2 HAr
      go_wp2_with fail
      refine (one_of i _).mono ?_
      rintro e w3 ⟨rfl, hb3⟩
      have HA3 := Lib.hid (HA2.out.later hb3)
      clear hb3 HA2
      go_wp2_with fail
      refine (HA3.out.notes true i hi1 hi2 (by simp)).mono ?_
      rintro e w4 ⟨rfl, ha4⟩
      have HA4 := Lib.hid ha4
      clear ha4 HA3
      go_wp2_with fail
      refine (num_any _ _).mono ?_
      rintro e w5 ⟨rfl, rfl⟩
      go_wp2_with fail
      refine (HA4.out.ends (by simp) (by rw [grps_length]; omega)).mono ?_
      rintro e w5 ⟨rfl, ha5⟩
      have HA5 := Lib.hid ha5
      clear ha5 HA4
      go_wp2_with fail
      refine (num_any _ _).mono ?_
      rintro e w6 ⟨rfl, rfl⟩
      go_wp2_with fail
      go_roundg (g - k)
      case measure => omega
      case rel =>
        have hi := HI.out
        refine ⟨k + 1, _, rfl, by omega, by omega, by omega, Lib.hid ?_⟩
        have := HA5.out
        rw [← grps_succ]
        have e : (i : Int) = (k : Int) + 1 := hi
        rw [e] at this
        simpa using this
    · obtain rfl : k = g := by omega
      have hnl : ¬ (i ≤ (k : Int)) := by omega
      clear hi
      have hmn : min (k : Int) 64 = ((grps k).length : Int) := by rw [grps_length]; omega
      go_wp2_with fail
      refine HAr.out.lens.mono ?_
      rintro e w2 ⟨rfl, ha2⟩
      have HA2 := Lib.hid ha2
      clear ha2 HAr
      go_wp2_with fail
      obtain ⟨nb, hnb⟩ : ∃ b, b = w2.heap.size := ⟨_, rfl⟩
      obtain ⟨X, hX⟩ : ∃ X, X = w2.alloc (.cells #[.int .i64 ((k : Int) - (grps k).length)] 2) := ⟨_, rfl⟩
      have hbX : Below w2.heap.size w2 X := by rw [hX]; exact (Below.refl _ _).alloc (Nat.le_refl _) _
      have hkX : X.heap[nb]? = some (.cells #[.int .i64 ((k : Int) - (grps k).length)] 2 (0, 0)) := by rw [hX, hnb]; exact block_alloc_new w2 _
      have HAX := Lib.hid (HA2.out.later hbX)
      have HNB := Lib.hid hnb
      have HKX := Lib.hid hkX
      have hnf : ∀ lb W, (binOp .eql 44 (.func (.func 33) #[] lb) .nilFunc).run Tryz.prog W = .ok (.bool false) W := fun _ _ => by kernel_rfl
      obtain ⟨s, d, hj, hst, hgr⟩ := HA2.out.jr
      obtain ⟨ps, cs, rfl⟩ := Rw.slice hst
      have hgl : (grps k).length ≤ 1000000 := by rw [grps_length]; omega
      have hgL : ∀ L ∈ grps k, L.length ≤ 1000000 := by
        intro L hL
        have := List.mem_of_mem_drop hL
        simp [allG] at this
        obtain ⟨a, _, rfl⟩ := this
        simp
      have HGX := Lib.hid (hgr.inn.later hbX)
      have HJX := Lib.hid (hj.later hbX)
      have HNX := Lib.hid (lt_of_block hkX)
      have HJN := Lib.hid (show b0 + 1 < nb by rw [hnb]; exact hj.lt)
      have HST := Lib.hid (fun (Y : World) (hY : Below X.heap.size X Y) => steps_at (HJX.out.later hY) (HGX.out.later hY) hgl hgL)
      rw [← hX, ← hnb]
      clear hX hnb hbX hkX hj hst hgr hgl hgL
      refine (HST.out X (Below.refl _ _)).mono ?_
      rintro e w3 ⟨rfl, _, hb3⟩
      have HB3 := Lib.hid hb3
      clear hb3
      go_wp2_with fail
      refine (HST.out w3 HB3.out).mono ?_
      rintro e w4 ⟨rfl, hit, hb4⟩
      have HIT := Lib.hid hit
      have HB4 := Lib.hid (HB3.out.trans (hb4.mono HB3.out.size))
      clear hb4 hit HST HB3 hnf
      have HA4 := Lib.hid (HAX.out.later HB4.out)
      have HK4 := Lib.hid ((HB4.out.block nb (lt_of_block HKX.out)).trans HKX.out)
      have HN4 := Lib.hid (show nb < w4.heap.size from lt_of_block ((HB4.out.block nb (lt_of_block HKX.out)).trans HKX.out))
      clear HAX HKX HA2
      go_wp2
      refine wp_tmps fun T HT => ?_
      refine (wpIn_wide (n := 8)).1 ?_
      have HGL := Lib.hid (grps_length k)
      refine range_lawX (n := 8) rfl (by omega) (gf := 33) (lb := #[.pointer (some ⟨w3.heap.size, 0, none⟩)]) (by rw [HT.out]; rfl) trivial (enters_of Tryz.func33 (by kernel_rfl) rfl) (HIT.out 7) (fun h k => KpZ.t h k) (fun W l o o' hl ho => KpZ.put W l o o' hl ho) (fun _ => rfl)
        (fun (pre : List (Bool × Int)) W => Boxed W nb 2 (.int .i64 ((k : Int) - (grps k).length + (pre.length : Nat))) ∧ Below nb w4 W)
        (fun c (pre : List (Bool × Int)) W => False) ?hI0 ?hIx0 ?h00
        (fun D x a' W => ∃ Bx, nb < Bx ∧ W.heap[Bx]? = some (.cells #[.bool x.1, Ii x.2, Ii 0, .bool true, Ii x.2, Ii 0, Ii x.2, Ii 1, .slice none 0 0] 40 (0, 0)) ∧ a' = { tmps := (T.setIfInBounds 72 (.agg (sv x).toArray)).setIfInBounds 10 (.pointer (some ⟨Bx, 0, none⟩)), defers := [] })
        ?hAx0 ?assign0 ?body0 ?done0 ?stop0
      case hI0 => exact OwnFrom.and (Own.from (boxed_own nb 2 (fun pre : List (Bool × Int) => .int .i64 ((k : Int) - (grps k).length + (pre.length : Nat)))) _) (ownFrom_below (Nat.le_of_lt HN4.out) (Nat.le_of_lt HN4.out))
      case hIx0 => exact fun _ _ _ _ _ h => h.elim
      case h00 => exact ⟨by have := HK4.out; simpa [Boxed] using this, Below.refl _ _⟩
      case hAx0 =>
        rintro D x a' W l o o' ⟨Bx, h1, h2, h3⟩ hl ho
        refine ⟨Bx, h1, ?_, h3⟩
        have hne : Bx ≠ l := by rintro rfl; rw [h2] at hl; cases hl; simp [Obj.isCells] at ho
        rw [World.putObj_heap_other hne]
        exact h2
      case stop0 => exact fun D c pre W hD hp h => h.elim
      case assign0 =>
        rintro l pre x W K ⟨hbx, hBw⟩ hK
        have hsz := lt_of_block hbx
        simp only [stV, sv]
        rw [HT.out]
        gi_wp2
        exact hK _ _ (KeepsOthers.alloc _ _) (KpZ.below ((Below.refl _ W).alloc (Nat.le_refl _) _)) ⟨hbx.alloc _, hBw.alloc (by omega) _⟩ ⟨W.heap.size, hsz, block_alloc_new W _, by rw [HT.out]; rfl⟩
      case body0 =>
        rintro l D pre x a' W ⟨hbx, hBw⟩ ⟨Bx, hD, hx, rfl⟩ hlt hpN
        have hxn := grps_at k x pre hpN
        have hpl := hpN.length_le
        rw [grps_flat_length] at hpl
        simp at hpl
        have hgl := HGL.out
        obtain ⟨m, hm⟩ : ∃ m : Int, m = (k : Int) - (grps k).length + (pre.length : Nat) := ⟨_, rfl⟩
        have hm1 : x.2 = m + 1 := by omega
        have hm2 : 0 ≤ m := by omega
        have hm3 : m ≤ 1000 := by omega
        have hm4 : (k : Int) - (grps k).length + ((pre ++ [x]).length : Nat) = m + 1 := by rw [List.length_append]; simp; omega
        rw [← hm] at hbx
        have HM4 := Lib.hid hm4
        have n0 := cell_of (o := 0) (v := .int .i64 m) hbx rfl
        have nf := free_of (o := 0) hbx
        have HBX := Lib.hid hbx
        have HBW := Lib.hid hBw
        have hne : Bx ≠ nb := by omega
        have hx2 := (block_setCell_other (p := ⟨nb, 0, none⟩) (.int .i64 (m + 1)) hne).trans hx
        have i0 := cell_of (o := 1) (v := Ii x.2) hx2 rfl
        have n1 := cell_of (o := 0) (v := .int .i64 (m + 1)) (block_setCell (b := nb) (o := 0) (.int .i64 (m + 1)) hbx) rfl
        rw [hm1] at i0
        rw [HT.out]
        clear hxn hpl hgl hm hm1 hm4 hbx hBw hx hx2
        gi_wp2
        refine ⟨KeepsOthers.setCell _ _ _, KpZ.chg ((Chg.refl (fun j => j = nb) W).setCell (p := ⟨nb, 0, none⟩) (fun _ => rfl) _) (fun j _ e hz => by have := HNB.out; omega), ?_, HBW.out.setCell (p := ⟨nb, 0, none⟩) (Nat.le_refl _) _⟩
        show Boxed _ nb 2 (.int .i64 ((k : Int) - (grps k).length + ((pre ++ [x]).length : Nat)))
        rw [HM4.out]
        exact block_setCell (b := nb) (o := 0) (.int .i64 (m + 1)) HBX.out
      case done0 =>
        rintro D xs W hD hxs ⟨hbx, hBw⟩ hm
        have hgl := HGL.out
        have hxl : (k : Int) - (grps k).length + (xs.length : Nat) = (k : Int) := by rw [hxs, grps_flat_length]; omega
        rw [hxl] at hbx
        have hnX : nb ≤ X.heap.size := Nat.le_of_lt HNX.out
        have hXW : Below nb X W := (HB4.out.mono hnX).trans hBw
        have hb1n : b0 + 1 < nb := HJN.out
        have hjW : JB W (b0 + 1) (.slice ps 0 cs) false d (.slice none 0 0) true := (hXW.block (b0 + 1) hb1n).trans HJX.out
        have hcW : Chg (fun j => nb ≤ j) X W := ⟨hXW.os, hXW.tape, hXW.output, hXW.size, fun j hj hn => hXW.block j (by omega)⟩
        have hgW : Grp (fun j => b0 + 1 < j) W d (grps k) := by
          obtain ⟨ys, h4, h5⟩ := HGX.out
          have hnn := HNB.out
          exact ⟨ys, (h4.keep hcW (fun j hj e => by omega)).mono fun j hj => hj.1, fun i M hM => by obtain ⟨v, e, q⟩ := h5 i M hM; exact ⟨v, e, (Rw.keep q hcW (fun j hj e => by omega)).mono fun j hj => hj.1⟩⟩
        have hmk : ∀ D' ∈ [D], b0 + 1 < D' ∧ W.heap[D']? = some (.deferred (some [])) := by
          intro D' hD'
          rw [List.mem_singleton.1 hD']
          exact ⟨by have := HN4.out; omega, hm⟩
        have HAW := Lib.hid (show At3 [D] w b0 (b0 + 1) false [] (grps k) W from ⟨(hBw.block b0 (by omega)).trans HA4.out.res, ⟨_, d, hjW, Rw.zero _ _ _ _ 9, hgW⟩, HA4.out.bel.trans (hBw.mono (by omega)), by omega, hmk⟩)
        have HBXW := Lib.hid hbx
        have HM := Lib.hid hm
        have HDD := Lib.hid hD
        clear hbx hBw hm hgl hxl hxs hXW hjW hcW hgW hnX HIT
        have n0 := cell_of (o := 0) (v := .int .i64 (k : Int)) HBXW.out rfl
        rw [HT.out]
        go_wp2_with fail
        refine HAW.out.begins.mono ?_
        rintro e wa ⟨rfl, haa⟩
        have HAA := Lib.hid haa
        clear haa HAW
        go_wp2_with fail
        refine (num_any _ _).mono ?_
        rintro e wb ⟨rfl, rfl⟩
        go_wp2_with fail
        go_loopg [11, 12] (st + 1) (fun gg s11 s12 wr => ∃ (j : Nat) (i : Int) (L : List (Bool × Int)), s11 = .int .i64 i ∧ i = (j : Int) + 1 ∧ j ≤ st ∧ st + 1 ≤ gg + j ∧ Hid (L.length = min j 128) ∧ Hid (At3 [D] w b0 (b0 + 1) true L (grps k) wr))
        case atStart => exact ⟨0, 1, [], rfl, rfl, Nat.zero_le _, by omega, Lib.hid rfl, HAA⟩
        case round =>
          obtain ⟨j, i', L, rfl, hi', hj', hgg', HLL, HAr⟩ := hrel
          clear HAA
          by_cases hlt : j < st
          · have hig : i' ≤ (st : Int) := by omega
            have hi1 : 1 ≤ i' := by omega
            have hi2 : i' ≤ 1000 := by omega
            by_cases hj8 : j < 128
            · have hi8 : i' ≤ 128 := by omega
              have hi9 : ¬ (128 < i') := by omega
              have HI' := Lib.hid hi'
              clear hi'
              go_wp2_with fail
              refine (one_of i' _).mono ?_
              rintro e w3' ⟨rfl, hb3⟩
              have HA3 := Lib.hid (HAr.out.later hb3)
              clear hb3 HAr
              go_wp2_with fail
              refine (HA3.out.notes false i' hi1 hi2 (by rw [HLL.out]; omega)).mono ?_
              rintro e w4' ⟨rfl, ha4⟩
              have HA4' := Lib.hid ha4
              clear ha4 HA3
              go_wp2_with (go_at_call 9; refine (num_any _ _).mono ?_; rintro e wn ⟨rfl, rfl⟩)
              go_roundg (st - j)
              case measure => omega
              case rel =>
                have hi' := HI'.out
                exact ⟨j + 1, _, _, rfl, by omega, by omega, by omega, Lib.hid (by rw [List.length_append, HLL.out]; simp; omega), HA4'⟩
            · have hi8 : ¬ (i' ≤ 128) := by omega
              have hi9 : 128 < i' := by omega
              have HI' := Lib.hid hi'
              clear hi'
              go_wp2_with fail
              refine (one_of i' _).mono ?_
              rintro e w3' ⟨rfl, hb3⟩
              have HA3 := Lib.hid (HAr.out.later hb3)
              clear hb3 HAr
              go_wp2_with fail
              refine (HA3.out.full false i' hi1 hi2 (by rw [HLL.out]; omega)).mono ?_
              rintro e w4' ⟨rfl, ha4⟩
              have HA4' := Lib.hid ha4
              clear ha4 HA3
              go_wp2_with (go_at_call 9; refine (num_any _ _).mono ?_; rintro e wn ⟨rfl, rfl⟩)
              go_roundg (st - j)
              case measure => omega
              case rel =>
                have hi' := HI'.out
                exact ⟨j + 1, _, L, rfl, by omega, by omega, by omega, Lib.hid (by rw [HLL.out]; omega), HA4'⟩
          · obtain rfl : j = st := by omega
            have hnl2 : ¬ (i' ≤ (j : Int)) := by omega
            clear hi'
            have hll := HLL.out
            have hmn2 : min (j : Int) 128 = (L.length : Int) := by omega
            have HMN2 := Lib.hid hmn2
            go_wp2_with fail
            refine (HAr.out.cancels (by omega)).mono ?_
            rintro e wc ⟨⟨pc, cc, rfl⟩, hac⟩
            have HAC := Lib.hid hac
            clear hac HAr hll
            go_wp2_with fail
            refine (num_any _ _).mono ?_
            rintro e wn ⟨rfl, rfl⟩
            go_wp2_with fail
            refine (works_any _).mono ?_
            rintro e wz ⟨rfl, hbz⟩
            have HAZ := Lib.hid (HAC.out.later hbz)
            clear hbz HAC
            have e1 := free_of (o := 0) HAZ.out.res
            have e2 := cell_of (o := 0) (v := .bool false) HAZ.out.res rfl
            go_wp2_with fail
            obtain ⟨hD1, hD2⟩ := HAZ.out.marks D (by simp)
            obtain ⟨Y, hY⟩ : ∃ Y, Y = wz.setCell ⟨b0, 0, none⟩ (.bool true) := ⟨_, rfl⟩
            have hm2 : Y.heap[D]? = some (.deferred (some [])) := by rw [hY]; exact (block_setCell_other _ (by show D ≠ b0; omega)).trans hD2
            have hr2 : Y.heap[b0]? = some (.cells #[.bool true] 4 (0, 0)) := by rw [hY]; exact block_setCell (b := b0) (o := 0) (.bool true) HAZ.out.res
            have hbY : Below b0 w Y := by rw [hY]; exact HAZ.out.bel.setCell (p := ⟨b0, 0, none⟩) (Nat.le_refl _) _
            rw [← hY]
            refine ⟨by simp, .inl ⟨D, _, rfl, run_takeDeferred hm2, ?_⟩⟩
            have hv' := cell_of (o := 0) (v := .bool true) ((World.putObj_heap_other (show b0 ≠ D by omega)).trans hr2 : (Y.putObj D (.deferred none)).heap[b0]? = _) rfl
            refine ⟨.bool true, by simp [results, Tryz.f3, go_sem, hv'], rfl, ?_⟩
            have hw : b0 = w.heap.size := HB0.out
            rw [← hw]
            exact hbY.trans (belowK_b (w := w) (n₀ := b0) (by omega) _ D _ _ (by omega) hm2 rfl rfl)
end Go.Proofs.YticconhcphocbaaGreatDoor
