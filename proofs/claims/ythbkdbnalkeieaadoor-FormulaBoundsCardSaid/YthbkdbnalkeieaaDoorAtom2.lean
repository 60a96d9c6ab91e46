/- The walk of atom. -/
import Derived.Test.YthbkdbnalkeieaaDoorAtom
namespace Go.Proofs.YthbkdbnalkeieaaDoor
open Go.RowKit Go.Sort Go.Shelf

theorem Chg.cell {S : Nat → Prop} {w w' : World} (h : Chg S w w') {p : Addr} {v : Value} (hc : w.cell? p = some v) (hS : ¬ S p.block) : w'.cell? p = some v :=
  (World.cell?_of_block (h.block p.block (World.block_lt_of_cell? w _ hc) hS)).trans hc
theorem first_cons {s : List UInt8} {c : UInt8} (h : firstB s = c) (hc : c ≠ 0) : ∃ t, s = c :: t := by
  cases s with
  | nil => exact absurd h.symm hc
  | cons d t => exact ⟨t, by rw [show d = c from h]⟩

theorem within_deep (rb : Nat) (f : Value) (s : List UInt8) (o : Int) (w : World) (h : IsR w rb s o) (ho : ¬ o < 32) :
    Calls Tryd.prog 61 #[.pointer (some ⟨rb, 0, none⟩), f] w fun e w' => PEnd rb o w (.bad 311) e w' := by
  have hA : IsR (w.alloc (.cells #[.int .i64 0, .int .i64 0, .slice none 0 0] 26)) rb s o := h.later ((Below.refl _ w).alloc (Nat.le_refl _) _)
  have c1 := hA.c1
  have ho' : decide (o < 32) = false := decide_eq_false ho
  have hC : Chg (fun k => k = rb) w (w.alloc (.cells #[.int .i64 0, .int .i64 0, .slice none 0 0] 26)) := (Chg.refl _ w).alloc _
  have HC := Lib.hid hC
  clear hC
  go_enter Tryd.func61, Tryd.ntmps61
  go_wp2_with fail
  refine (must_false 311 _).mono ?_
  rintro e w1 ⟨rfl, rfl⟩
  exact ⟨rfl, rfl, HC.out⟩

theorem byte_ne {c : UInt8} {k : Nat} (_hk : k < 256) (h : ¬ c = UInt8.ofNat k) : (((c.toNat : Nat) : Int) == (k : Int)) = false := by
  rw [beq_eq_false_iff_ne]
  intro e
  apply h
  have : c.toNat = k := by omega
  rw [← this]
  simp

/-- The end of a function that stores its formula in the block of its result. -/
theorem PEnd.stored {Z : Nat → Prop} {rb kb : Nat} {o : Int} {w V : World} {op la : Int} {of : Fms} {r : List UInt8} {s : Value} (hR : IsR V rb r o) (hS : SlZ Z V s of) (hC : Chg (fun k => k = rb) w V)
    (hkb : w.heap.size ≤ kb) (hne : rb ≠ kb) (hZ : ∀ k, Z k → w.heap.size ≤ k ∧ k ≠ kb) :
    PEnd rb o w (.ok op la of r) (.returned (.agg #[.int .i64 op, .int .i64 la, s])) (((V.setCell ⟨kb, 0, none⟩ (.int .i64 op)).setCell ⟨kb, 1, none⟩ (.int .i64 la)).setCell ⟨kb, 2, none⟩ s) := by
  have hCf : Chg (fun k => k = kb) V (((V.setCell ⟨kb, 0, none⟩ (.int .i64 op)).setCell ⟨kb, 1, none⟩ (.int .i64 la)).setCell ⟨kb, 2, none⟩ s) :=
    (((Chg.refl (fun k => k = kb) V).setCell (p := ⟨kb, 0, none⟩) (fun _ => rfl) _).setCell (p := ⟨kb, 1, none⟩) (fun _ => rfl) _).setCell (p := ⟨kb, 2, none⟩) (fun _ => rfl) _
  exact ⟨⟨_, rfl, (hS.keep hCf (fun k hk => (hZ k hk).2)).mono (fun k hk => (hZ k hk).1)⟩, hCf.keep hR hne, hC.step hCf (fun k hk e => by omega)⟩

set_option maxHeartbeats 4000000 in
set_option maxRecDepth 100000 in
theorem atom_step (n : Nat) (HA : AtomOk n) (HL : LevOk n 3) : AtomOk (n + 1) := by
  intro rb s o w h h0 h1 hn
  have hW0 : ∃ W, W = (w.alloc (.cells #[.pointer (some ⟨rb, 0, none⟩)] 66)).alloc (.cells #[.int .i64 0, .int .i64 0, .slice none 0 0] 26) := ⟨_, rfl⟩
  obtain ⟨W, hW⟩ := hW0
  have hb : Below w.heap.size w W := by rw [hW]; exact ((Below.refl _ w).alloc (Nat.le_refl _) _).alloc (by simp) _
  have hR := h.later hb
  have hx : W.cell? ⟨w.heap.size, 0, none⟩ = some (.pointer (some ⟨rb, 0, none⟩)) := by
    rw [hW]
    exact cell_of (block_alloc_old _ (block_alloc_new w _)) rfl
  have hK : W.heap[w.heap.size + 1]? = some (.cells #[.int .i64 0, .int .i64 0, .slice none 0 0] 26 (0, 0)) := by
    rw [hW]
    have := block_alloc_new (w.alloc (.cells #[.pointer (some ⟨rb, 0, none⟩)] 66)) (.cells #[.int .i64 0, .int .i64 0, .slice none 0 0] 26)
    rw [World.size_alloc] at this
    exact this
  have hlt := h.lt
  have HR := Lib.hid hR
  have HK := Lib.hid hK
  have HB := Lib.hid hb
  have HAn := Lib.hid HA
  have HLn := Lib.hid HL
  clear hR hK hb HA HL h
  have hpr : prs (n + 1) .atom o s = prs (n + 1) .atom o s := rfl
  by_cases c76 : firstB s = 76
  · obtain ⟨t, rfl⟩ := first_cons c76 (by decide)
    go_enter Tryd.func47, Tryd.ntmps47
    go_upto_region 1 with fail
    rw [← hW]
    clear hW
    go_wp2_with fail
    refine (first_any rb _ o W HR.out).mono ?_
    rintro e w1 ⟨rfl, rfl⟩
    rw [c76]
    go_wp2_with fail
    refine (layer_any rb 76 t o W HR.out).mono ?_
    intro e w2 hE
    have hltW := lt_of_block HK.out
    have hpr : prs (n + 1) .atom o (76 :: t) = layFrom 16 t := by simp [prs, firstB]
    have HPR := Lib.hid hpr
    clear hpr
    cases hL : layFrom 16 t with
    | bad x =>
      rw [hL] at hE
      obtain ⟨rfl, hc2⟩ := hE
      refine ⟨rfl, ?_⟩
      show PEnd rb o w (prs (n + 1) .atom o (76 :: t)) _ _
      rw [HPR.out, hL]
      exact ⟨rfl, (Chg.of_below HB.out).step hc2 (fun _ _ e => e)⟩
    | ok op la of r =>
      rw [hL] at hE
      obtain ⟨⟨s', rfl, hs'⟩, hR2, hc2⟩ := hE
      obtain ⟨p', cap', rfl⟩ := hs'.is.slice
      have hK2 := hc2.keep HK.out (by show ¬ w.heap.size + 1 = rb; omega)
      obtain ⟨⟨t0, t1⟩, ⟨t2, t3⟩, ⟨t4, t5⟩, t6⟩ := store3 hK2 (.int .i64 op) (.int .i64 la) (.slice p' of.len cap')
      have u0 := cell_of (o := 0) (v := .int .i64 op) t6 rfl
      have u1 := cell_of (o := 1) (v := .int .i64 la) t6 rfl
      have u2 := cell_of (o := 2) (v := .slice p' of.len cap') t6 rfl
      have HS2 := Lib.hid hs'
      have HR2 := Lib.hid hR2
      have HC2 := Lib.hid ((Chg.of_below (S := fun k => k = rb) HB.out).step hc2 (fun _ _ e => e))
      have HLL := Lib.hid hL
      clear hs' hR2 hc2 hK2 t6 hL
      go_wp2
      refine ⟨rfl, .agg #[.int .i64 op, .int .i64 la, .slice p' of.len cap'], ?_, ?_⟩
      · simp [results, Tryd.f47, go_sem, u0, u1, u2]
      · show PEnd rb o w (prs (n + 1) .atom o (76 :: t)) _ _
        rw [HPR.out, HLL.out]
        exact PEnd.stored HR2.out HS2.out HC2.out (by omega) (by omega) (fun k hk => ⟨by omega, by omega⟩)
  · by_cases c33 : firstB s = 33
    · obtain ⟨t, rfl⟩ := first_cons c33 (by decide)
      by_cases ho : o < 32
      · have hg : ∀ W', IsR W' rb t (o + 1) → Chg (fun k => k = rb) W W' → Calls Tryd.prog 47 (#[.pointer (some ⟨rb, 0, none⟩)] ++ #[]) W' fun e w' => PEnd rb (o + 1) W' (prs n .atom (o + 1) t) e w' :=
          fun W' hR' _ => HAn.out rb t (o + 1) W' hR' (by omega) (by omega) (by simp at hn; omega)
        have hW1 := within_any rb 47 #[.pointer (some ⟨rb, 0, none⟩)] #[] 33 t o W _ HR.out ho h0 (enters_of Tryd.func47 (by kernel_rfl) rfl) hg
        have HW1 := Lib.hid hW1
        clear hg hW1
        go_enter Tryd.func47, Tryd.ntmps47
        go_upto_region 1 with fail
        rw [← hW]
        clear hW
        go_wp2_with fail
        refine (first_any rb _ o W HR.out).mono ?_
        rintro e w1 ⟨rfl, rfl⟩
        rw [c33]
        go_wp2_with fail
        refine HW1.out.mono ?_
        intro e w2 hE
        have hltW := lt_of_block HK.out
        cases hL : prs n .atom (o + 1) t with
        | bad x =>
          have hpr : prs (n + 1) .atom o (33 :: t) = .bad x := by simp [prs, firstB, ho, hL]
          rw [hL] at hE
          obtain ⟨rfl, hc2⟩ := hE
          refine ⟨rfl, ?_⟩
          show PEnd rb o w (prs (n + 1) .atom o (33 :: t)) _ _
          rw [hpr]
          exact ⟨rfl, (Chg.of_below HB.out).step hc2 (fun _ _ e => e)⟩
        | ok op la of r =>
          have hpr : prs (n + 1) .atom o (33 :: t) = .ok 2 0 (.cons op la of .nil) r := by simp [prs, firstB, ho, hL]
          rw [hL] at hE
          obtain ⟨⟨s', rfl, hs'⟩, hR2, hc2⟩ := hE
          obtain ⟨p', cap', rfl⟩ := hs'.is.slice
          have hs2 := hc2.size
          have hK2 := hc2.keep HK.out (by show ¬ w.heap.size + 1 = rb; omega)
          have hbA : Below w2.heap.size w2 (w2.alloc (.cells #[.int .i64 op, .int .i64 la, .slice p' of.len cap'] 26)) := (Below.refl _ w2).alloc (Nat.le_refl _) _
          have hX := block_alloc_new w2 (.cells #[.int .i64 op, .int .i64 la, .slice p' of.len cap'] 26)
          have hK3 := (hbA.block _ (lt_of_block hK2)).trans hK2
          have hS3 : SlZ (fun k => W.heap.size ≤ k) (w2.alloc (.cells #[.int .i64 op, .int .i64 la, .slice p' of.len cap'] 26)) (.slice (some ⟨w2.heap.size, 0, none⟩) 1 1) (.cons op la of .nil) := by
            have hsl := hs'.later hbA
            refine .inr ⟨w2.heap.size, 0, 1, rfl, hs2, ⟨.slice p' of.len cap', cell_of hX rfl, cell_of hX rfl, cell_of hX rfl, ?_⟩, trivial⟩
            exact hsl
          obtain ⟨⟨t0, t1⟩, ⟨t2, t3⟩, ⟨t4, t5⟩, t6⟩ := store3 hK3 (.int .i64 2) (.int .i64 0) (.slice (some ⟨w2.heap.size, 0, none⟩) 1 1)
          have u0 := cell_of (o := 0) (v := .int .i64 2) t6 rfl
          have u1 := cell_of (o := 1) (v := .int .i64 0) t6 rfl
          have u2 := cell_of (o := 2) (v := .slice (some ⟨w2.heap.size, 0, none⟩) 1 1) t6 rfl
          have HS3 := Lib.hid hS3
          have HR3 := Lib.hid (hR2.later hbA)
          have HC3 := Lib.hid (((Chg.of_below (S := fun k => k = rb) HB.out).step hc2 (fun _ _ e => e)).alloc (.cells #[.int .i64 op, .int .i64 la, .slice p' of.len cap'] 26))
          have HPR := Lib.hid hpr
          clear hs' hR2 hc2 hK2 hK3 hX hbA t6 hL hS3 hpr
          go_wp2
          refine ⟨rfl, .agg #[.int .i64 2, .int .i64 0, .slice (some ⟨w2.heap.size, 0, none⟩) 1 1], ?_, ?_⟩
          · simp [results, Tryd.f47, go_sem, u0, u1, u2]
          · show PEnd rb o w (prs (n + 1) .atom o (33 :: t)) _ _
            rw [HPR.out]
            exact PEnd.stored HR3.out HS3.out HC3.out (by omega) (by omega) (fun k hk => ⟨by omega, by omega⟩)
      · have HW1 := Lib.hid (within_deep rb (.func (.func 47) #[.pointer (some ⟨rb, 0, none⟩)] #[]) (33 :: t) o W HR.out ho)
        have hpr : prs (n + 1) .atom o (33 :: t) = .bad 311 := by simp [prs, firstB, ho]
        have HPR := Lib.hid hpr
        clear hpr
        go_enter Tryd.func47, Tryd.ntmps47
        go_upto_region 1 with fail
        rw [← hW]
        clear hW
        go_wp2_with fail
        refine (first_any rb _ o W HR.out).mono ?_
        rintro e w1 ⟨rfl, rfl⟩
        rw [c33]
        go_wp2_with fail
        refine HW1.out.mono ?_
        rintro e w2 ⟨rfl, hc2⟩
        refine ⟨rfl, ?_⟩
        show PEnd rb o w (prs (n + 1) .atom o (33 :: t)) _ _
        rw [HPR.out]
        exact ⟨rfl, (Chg.of_below HB.out).step hc2 (fun _ _ e => e)⟩
    · by_cases c40 : firstB s = 40
      · obtain ⟨t, rfl⟩ := first_cons c40 (by decide)
        by_cases ho : o < 32
        · have hg : ∀ W', IsR W' rb t (o + 1) → Chg (fun k => k = rb) W W' → Calls Tryd.prog 62 (#[] ++ #[.pointer (some ⟨w.heap.size, 0, none⟩)]) W' fun e w' => PEnd rb (o + 1) W' (prs n (.lev 3) (o + 1) t) e w' :=
            fun W' hR' hC' => close_any n HLn.out rb w.heap.size t (o + 1) W' hR' (hC'.cell hx (by show ¬ w.heap.size = rb; omega)) (by omega) (by omega) (by simp at hn; omega)
          have hW1 := within_any rb 62 #[] #[.pointer (some ⟨w.heap.size, 0, none⟩)] 40 t o W _ HR.out ho h0 (enters_of Tryd.func62 (by kernel_rfl) rfl) hg
          have HW1 := Lib.hid hW1
          clear hg hW1
          go_enter Tryd.func47, Tryd.ntmps47
          go_upto_region 1 with fail
          rw [← hW]
          clear hW
          go_wp2_with fail
          refine (first_any rb _ o W HR.out).mono ?_
          rintro e w1 ⟨rfl, rfl⟩
          rw [c40]
          go_wp2_with fail
          refine HW1.out.mono ?_
          intro e w2 hE
          have hltW := lt_of_block HK.out
          cases hL : prs n (.lev 3) (o + 1) t with
          | bad x =>
            have hpr : prs (n + 1) .atom o (40 :: t) = .bad x := by simp [prs, firstB, ho, hL]
            rw [hL] at hE
            obtain ⟨rfl, hc2⟩ := hE
            refine ⟨rfl, ?_⟩
            show PEnd rb o w (prs (n + 1) .atom o (40 :: t)) _ _
            rw [hpr]
            exact ⟨rfl, (Chg.of_below HB.out).step hc2 (fun _ _ e => e)⟩
          | ok op la of r =>
            rw [hL] at hE
            obtain ⟨⟨s', rfl, hs'⟩, hR2, hc2⟩ := hE
            obtain ⟨p', cap', rfl⟩ := hs'.is.slice
            have hs2 := hc2.size
            have hx2 := hc2.cell hx (by show ¬ w.heap.size = rb; omega)
            have hK2 := hc2.keep HK.out (by show ¬ w.heap.size + 1 = rb; omega)
            have hbA : Below w2.heap.size w2 (w2.alloc (.cells #[.int .i64 op, .int .i64 la, .slice p' of.len cap'] 26)) := (Below.refl _ w2).alloc (Nat.le_refl _) _
            obtain ⟨W3, hW3⟩ : ∃ W3, W3 = w2.alloc (.cells #[.int .i64 op, .int .i64 la, .slice p' of.len cap'] 26) := ⟨_, rfl⟩
            have hX : W3.heap[w2.heap.size]? = some (.cells #[.int .i64 op, .int .i64 la, .slice p' of.len cap'] 26 (0, 0)) := by rw [hW3]; exact block_alloc_new w2 _
            rw [← hW3] at hbA
            have hK3 := (hbA.block _ (lt_of_block hK2)).trans hK2
            have hx3 := (hbA.cell (World.block_lt_of_cell? w2 _ hx2)).trans hx2
            have HS3 := Lib.hid (hs'.later hbA)
            have HR3 := Lib.hid (hR2.later hbA)
            have HK3 := Lib.hid hK3
            have HX3 := Lib.hid hX
            have HC3 := Lib.hid (show Chg (fun k => k = rb) w W3 by rw [hW3]; exact ((Chg.of_below (S := fun k => k = rb) HB.out).step hc2 (fun _ _ e => e)).alloc _)
            have HLL := Lib.hid hL
            have hlt2 := hR2.lt
            clear hs' hR2 hc2 hK2 hK3 hX hbA hL hx2 hx
            go_upto_region 8 with fail
            rw [← hW3]
            clear hW3
            by_cases c41 : firstB r = 41
            · obtain ⟨r', rfl⟩ := first_cons c41 (by decide)
              have hpr : prs (n + 1) .atom o (40 :: t) = .ok op la of r' := by
                have := HLL.out
                simp [prs, firstB, ho, this]
              have HPR := Lib.hid hpr
              clear hpr
              go_wp2_with fail
              refine (first_any rb _ o W3 HR3.out).mono ?_
              rintro e w4 ⟨rfl, rfl⟩
              rw [c41]
              go_wp2_with fail
              refine (must_true 310 _).mono ?_
              rintro e w4 ⟨rfl, rfl⟩
              go_wp2_with fail
              refine (skip_any rb 41 r' o W3 HR3.out).mono ?_
              rintro e V ⟨rfl, hV⟩
              have hVR : IsR V rb r' o := by rw [hV]; exact HR3.out.setS _
              have hVK : V.heap[w.heap.size + 1]? = some (.cells #[.int .i64 0, .int .i64 0, .slice none 0 0] 26 (0, 0)) := by
                rw [hV, block_setCell_other _ (by show w.heap.size + 1 ≠ rb; omega)]; exact HK3.out
              have hVX : V.heap[w2.heap.size]? = some (.cells #[.int .i64 op, .int .i64 la, .slice p' of.len cap'] 26 (0, 0)) := by
                rw [hV, block_setCell_other _ (by show w2.heap.size ≠ rb; omega)]; exact HX3.out
              have hVS := HS3.out.keep (S := fun k => k = rb) (by rw [hV]; exact (Chg.refl (fun k => k = rb) _).setCell (p := ⟨rb, 0, none⟩) (fun _ => rfl) _ : Chg (fun k => k = rb) W3 V) (fun k hk e => by omega)
              have hVC : Chg (fun k => k = rb) w V := by rw [hV]; exact HC3.out.setCell (p := ⟨rb, 0, none⟩) (fun _ => rfl) _
              obtain ⟨⟨t0, t1⟩, ⟨t2, t3⟩, ⟨t4, t5⟩, t6⟩ := store3 hVK (.int .i64 op) (.int .i64 la) (.slice p' of.len cap')
              have u0 := cell_of (o := 0) (v := .int .i64 op) t6 rfl
              have u1 := cell_of (o := 1) (v := .int .i64 la) t6 rfl
              have u2 := cell_of (o := 2) (v := .slice p' of.len cap') t6 rfl
              have x0 := cell_of (o := 0) (v := .int .i64 op) hVX rfl
              have x1 := cell_of (o := 1) (v := .int .i64 la) hVX rfl
              have x2 := cell_of (o := 2) (v := .slice p' of.len cap') hVX rfl
              have HVR := Lib.hid hVR
              have HVS := Lib.hid hVS
              have HVC := Lib.hid hVC
              clear hV hVR hVK hVX hVS hVC t6 hx3
              go_wp2
              refine ⟨rfl, .agg #[.int .i64 op, .int .i64 la, .slice p' of.len cap'], ?_, ?_⟩
              · simp [results, Tryd.f47, go_sem, u0, u1, u2]
              · show PEnd rb o w (prs (n + 1) .atom o (40 :: t)) _ _
                rw [HPR.out]
                exact PEnd.stored HVR.out HVS.out HVC.out (by omega) (by omega) (fun k hk => ⟨by omega, by omega⟩)
            · have hpr : prs (n + 1) .atom o (40 :: t) = .bad 310 := by
                have := HLL.out
                simp [prs, firstB] at c41 ⊢
                simp [ho, this, c41]
              have HPR := Lib.hid hpr
              have hb41 := byte_ne (k := 41) (by decide) c41
              clear hpr
              go_wp2_with fail
              refine (first_any rb _ o W3 HR3.out).mono ?_
              rintro e w4 ⟨rfl, rfl⟩
              go_wp2_with fail
              rw [show ((((firstB r).toNat : Nat) : Int) == 41) = false from hb41]
              refine (must_false 310 _).mono ?_
              rintro e w4 ⟨rfl, rfl⟩
              refine ⟨rfl, ?_⟩
              show PEnd rb o w (prs (n + 1) .atom o (40 :: t)) _ _
              rw [HPR.out]
              exact ⟨rfl, HC3.out⟩
        · have HW1 := Lib.hid (within_deep rb (.func (.func 62) #[] #[.pointer (some ⟨w.heap.size, 0, none⟩)]) (40 :: t) o W HR.out ho)
          have hpr : prs (n + 1) .atom o (40 :: t) = .bad 311 := by simp [prs, firstB, ho]
          have HPR := Lib.hid hpr
          clear hpr
          go_enter Tryd.func47, Tryd.ntmps47
          go_upto_region 1 with fail
          rw [← hW]
          clear hW
          go_wp2_with fail
          refine (first_any rb _ o W HR.out).mono ?_
          rintro e w1 ⟨rfl, rfl⟩
          rw [c40]
          go_wp2_with fail
          refine HW1.out.mono ?_
          rintro e w2 ⟨rfl, hc2⟩
          refine ⟨rfl, ?_⟩
          show PEnd rb o w (prs (n + 1) .atom o (40 :: t)) _ _
          rw [HPR.out]
          exact ⟨rfl, (Chg.of_below HB.out).step hc2 (fun _ _ e => e)⟩
      · have hpr : prs (n + 1) .atom o s = .bad 310 := by simp [prs, c76, c33, c40]
        have HPR := Lib.hid hpr
        have b1 := byte_ne (k := 76) (by decide) c76
        have b2 := byte_ne (k := 33) (by decide) c33
        have b3 := byte_ne (k := 40) (by decide) c40
        clear hpr
        go_enter Tryd.func47, Tryd.ntmps47
        go_upto_region 1 with fail
        rw [← hW]
        clear hW
        go_wp2_with fail
        refine (first_any rb _ o W HR.out).mono ?_
        rintro e w1 ⟨rfl, rfl⟩
        go_wp2
        refine ⟨rfl, ?_⟩
        show PEnd rb o w (prs (n + 1) .atom o s) _ _
        rw [HPR.out]
        exact ⟨rfl, Chg.of_below HB.out⟩
#print axioms atom_step
end Go.Proofs.YthbkdbnalkeieaaDoor
