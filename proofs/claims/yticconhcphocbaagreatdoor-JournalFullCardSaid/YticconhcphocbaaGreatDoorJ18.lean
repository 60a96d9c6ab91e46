/- Moving the last group. -/
import Derived.Test.YticconhcphocbaaGreatDoorJ17
import Derived.Test.YticconhcphocbaaGreatDoorOrderB
namespace Go.Proofs.YticconhcphocbaaGreatDoor
open Go.RowKit Go.Sort Go.Shelf

set_option maxHeartbeats 4000000 in
set_option maxRecDepth 100000 in
theorem back_ok {Z : Nat → Prop} (jb : Nat) (s d u : Value) (L : List (Bool × Int)) (G H : List (List (Bool × Int))) (w : World) (h : JB w jb s false (d) (u) true) (hd : Grp Z w d (G ++ [L])) (hu : Grp Z w u H) (hz : ¬ Z jb) (hG : G.length ≤ 100) (hH : H.length ≤ 100) (hL : L.length ≤ 1000) :
    Calls Tryz.prog 42 #[.pointer (some ⟨jb, 0, none⟩), .func (.func 43) #[.pointer (some ⟨jb, 0, none⟩)] #[], .func (.func 44) #[.pointer (some ⟨jb, 0, none⟩)] #[]] w fun e w' => (∃ v, e = .returned (.tuple #[v, .int .i64 0]) ∧ Stp (fun k => w.heap.size ≤ k ∧ k < w'.heap.size) w' v L) ∧
      (∃ d' u', JB w' jb s false (d') (u') true ∧ Grp (fun k => Z k ∨ (w.heap.size ≤ k ∧ k < w'.heap.size)) w' d' G ∧ Grp (fun k => Z k ∨ (w.heap.size ≤ k ∧ k < w'.heap.size)) w' u' (H ++ [L])) ∧ Chg (fun k => k = jb) w w' := by
  obtain ⟨xs, hrow, hel⟩ := hd
  obtain ⟨us, hurow, huel⟩ := hu
  have hgl : (G ++ [L]).length = G.length + 1 := by simp
  rw [hgl] at hrow
  obtain ⟨b, off, cap, rfl, hcap, hzb, hcell⟩ := hrow.at_ (i := G.length) (by omega)
  obtain ⟨u0, hu0, hc0⟩ := hcell 0 (by decide)
  rw [Nat.mul_one, Nat.add_zero] at hu0
  simp only [Nat.mul_one, Nat.add_zero] at hc0
  obtain ⟨v, hv, hst⟩ := hel G.length L (by simp)
  rw [hu0] at hv
  cases hv
  obtain ⟨q, cq, rfl⟩ := Rw.slice hst
  obtain ⟨pu, cu, rfl⟩ := Rw.slice hurow
  have hones := Grp.ones (by have := hurow.1; omega) huel
  have HN := Lib.hid (none_any jb s _ _ false true w h)
  have hjl := h.lt
  have HJ := Lib.hid h
  have HROW := Lib.hid hrow
  have HEL := Lib.hid hel
  have HUR := Lib.hid hurow
  have HUE := Lib.hid huel
  have HST := Lib.hid hst
  have HONE := Lib.hid hones
  obtain ⟨c0, c1, c2, c3, c4⟩ := h.c
  have eF := enters_of Tryz.func43 (by kernel_rfl) rfl
  have eT := enters_of Tryz.func44 (by kernel_rfl) rfl
  have HF := Lib.hid (fun X => past43_any jb X)
  have HT := Lib.hid (fun X => past44_any jb X)
  have HC0 := Lib.hid hc0
  clear h hrow hel hurow huel hst hones hcell hc0 hu0 hgl
  go_enter Tryz.func42, Tryz.ntmps42
  go_wp2_with fail
  refine HN.out.mono ?_
  rintro e w1 ⟨rfl, rfl⟩
  go_wp2_with fail
  refine (HF.out _).mono ?_
  rintro e w1 ⟨rfl, rfl⟩
  go_wp2_with fail
  refine (HT.out _).mono ?_
  rintro e w1 ⟨rfl, rfl⟩
  have hc0 := HC0.out
  go_upto_region 10 with fail
  clear c0 c1 c2 c3 c4 hc0 eF eT HN HF HT
  obtain ⟨i0, hi0, hz0, hz1, hz2⟩ := info_parts Tryz.info46
  have hcg : ¬ (cap < G.length) := by omega
  have HKP : Hid (∀ X, Below w.heap.size w X → JB X jb s false ((.slice (some ⟨b, off, none⟩) (G.length + 1) cap)) ((.slice pu H.length cu)) true) := Lib.hid fun X hX => HJ.out.later hX
  refine wp_region_tree (fun X => JB X jb s false ((.slice (some ⟨b, off, none⟩) (G.length + 1) cap)) ((.slice pu H.length cu)) true) [0, 1, 2, 3, 5, 6, 8, 9, 12] (.take 4 (.take 7 (.take 10 (.two 11 13 (.step 13 (.step 14 .nil)) (.step 11 (.step 14 .nil)))))) [15, 16, 17, 18] (by kernel_rfl) (by kernel_rfl) (fun c a d v w h => by simp only [Exit.then] at h ⊢; cases d <;> exact h) ?_
  refine pre_take (o := ⟨_, _, _, _, _, _⟩) (v := ?_) rfl (Or.inl ⟨by rfl, ?_⟩) ?_
  rotate_left
  · (intro X; go_simp; try with_reducible rfl)
  try simp only [Act.put, List.setIfInBounds_toArray, List.set_cons_zero, List.set_cons_succ]
  refine pre_take (o := ⟨_, _, _, _, _, _⟩) (v := ?_) rfl (Or.inl ⟨by rfl, ?_⟩) ?_
  rotate_left
  · (intro X; go_simp; try with_reducible rfl)
  try simp only [Act.put, List.setIfInBounds_toArray, List.set_cons_zero, List.set_cons_succ]
  refine pre_take (o := ⟨_, _, _, _, _, _⟩) (v := ?_) rfl (Or.inl ⟨by rfl, ?_⟩) ?_
  rotate_left
  · (intro X; go_simp; try with_reducible rfl)
  try simp only [Act.put, List.setIfInBounds_toArray, List.set_cons_zero, List.set_cons_succ]
  refine pre_take (o := ⟨_, _, _, _, _, _⟩) (v := ?_) rfl (Or.inl ⟨by rfl, ?_⟩) ?_
  rotate_left
  · (intro X; go_simp; try with_reducible rfl)
  try simp only [Act.put, List.setIfInBounds_toArray, List.set_cons_zero, List.set_cons_succ]
  refine pre_take (o := ⟨_, _, _, _, _, _⟩) (v := ?_) rfl (Or.inl ⟨by rfl, ?_⟩) ?_
  rotate_left
  · (intro X; go_simp; try with_reducible rfl)
  try simp only [Act.put, List.setIfInBounds_toArray, List.set_cons_zero, List.set_cons_succ]
  refine pre_take (o := ⟨_, _, _, _, _, _⟩) (v := ?_) rfl (Or.inl ⟨by rfl, ?_⟩) ?_
  rotate_left
  · (intro X; go_simp; try with_reducible rfl)
  try simp only [Act.put, List.setIfInBounds_toArray, List.set_cons_zero, List.set_cons_succ]
  refine pre_take (o := ⟨_, _, _, _, _, _⟩) (v := ?_) rfl (Or.inl ⟨by rfl, ?_⟩) ?_
  rotate_left
  · (intro X; go_simp; try with_reducible rfl)
  try simp only [Act.put, List.setIfInBounds_toArray, List.set_cons_zero, List.set_cons_succ]
  refine pre_take (o := ⟨_, _, _, _, _, _⟩) (v := ?_) rfl (Or.inl ⟨by rfl, ?_⟩) ?_
  rotate_left
  · (intro X; go_simp; try with_reducible rfl)
  try simp only [Act.put, List.setIfInBounds_toArray, List.set_cons_zero, List.set_cons_succ]
  refine pre_take (o := ⟨_, _, _, _, _, _⟩) (v := ?_) rfl (Or.inl ⟨by rfl, ?_⟩) ?_
  rotate_left
  · (intro X; go_simp; try with_reducible rfl)
  try simp only [Act.put, List.setIfInBounds_toArray, List.set_cons_zero, List.set_cons_succ]
  refine ⟨HKP.out _ (below_drewN (Below.refl _ _) 1), ?_⟩
  refine tree_take (o := ⟨_, _, _, _, _, _⟩) (v := ?_) rfl (Or.inl ⟨by rfl, ?_⟩) ?_
  rotate_left
  · (rintro X z1; have z3 := (JB.c z1).2.2.1; go_simp; try with_reducible rfl)
  try simp only [Act.put, List.setIfInBounds_toArray, List.set_cons_zero, List.set_cons_succ]
  refine tree_take (o := ⟨_, _, _, _, _, _⟩) (v := .slice (some ⟨b, off, none⟩) G.length G.length) rfl (Or.inl ⟨by rfl, ?_⟩) ?_
  · (rintro X z1; go_simp)
  try simp only [Act.put, List.setIfInBounds_toArray, List.set_cons_zero, List.set_cons_succ]
  refine tree_take (o := ⟨_, _, _, _, _, _⟩) (v := ?_) rfl (Or.inl ⟨by rfl, ?_⟩) ?_
  rotate_left
  · (rintro X z1; have z3 := (JB.c z1).2.2.2.1; go_simp; try with_reducible rfl)
  try simp only [Act.put, List.setIfInBounds_toArray, List.set_cons_zero, List.set_cons_succ]
  obtain ⟨W0, hW0⟩ : ∃ Y, Y = w.drew := ⟨_, rfl⟩
  have hb20 : Below w.heap.size w W0 := by rw [hW0]; exact below_drewN (Below.refl _ _) 1
  rw [← hW0]
  clear hW0
  have HB0 := Lib.hid hb20
  clear hb20
  refine tree_two (oi := ⟨_, _, _, _, _, _⟩) (oj := ⟨_, _, _, _, _, _⟩) rfl rfl (fun K hK => ?_) (fun K hK => ?_)
  -- the clone first
  · have HCL := Lib.hid (cl32_any (.slice pu H.length cu) H.length us W0 (Rw.later HUR.out HB0.out) (by omega) HONE.out)
    go_simp
    refine HCL.out.mono ?_
    rintro e W1 ⟨v1, rfl, ho1, hb1⟩
    have hlo1 : ∀ k, v1.ownBlock = some k → w.heap.size ≤ k := fun k hk => Nat.le_trans HB0.out.size (ownsRow_lo ho1 hk).1
    have HO1 := Lib.hid ho1
    have HB1 := Lib.hid (HB0.out.trans (hb1.mono HB0.out.size))
    refine hK.out _ _ (HKP.out _ HB1.out) (fun _ => ?_)
    clear hK K hb1 ho1 HCL
    try simp only [Act.put, List.setIfInBounds_toArray, List.set_cons_zero, List.set_cons_succ]
    refine tree_do (o := ⟨_, _, _, _, _, _⟩) rfl (fun K hK => ?_)
    go_simp
    obtain ⟨nb, hnb⟩ : ∃ nb, nb = W1.heap.size := ⟨_, rfl⟩
    obtain ⟨W3, hW3⟩ : ∃ Y, Y = W1.alloc (.cells #[.slice q L.length cq] 46) := ⟨_, rfl⟩
    have hb23 : Below W1.heap.size W1 W3 := by rw [hW3]; exact (Below.refl _ _).alloc (Nat.le_refl _) _
    have hnw : ∀ j x, ([.slice q L.length cq] : List Value)[j]? = some x → W3.cell? ((⟨nb, 0, none⟩ : Addr).add j) = some x := by rw [hW3, hnb]; exact cells_new W1 [.slice q L.length cq] 46
    rw [← hW3, ← hnb]
    have HB3 := Lib.hid (HB1.out.trans (hb23.mono HB1.out.size))
    have HO3 := Lib.hid (ownsRow_rebase (base' := 0) (ownsRow_below HO1.out hb23) (fun _ _ => Nat.zero_le _))
    have HNW := Lib.hid hnw
    refine hK.out _ _ (HKP.out _ HB3.out) (fun _ => ?_)
    clear hK K hb23 hnw hW3 hnb HB1 HO1 HB0
    try simp only [Act.put, List.setIfInBounds_toArray, List.set_cons_zero, List.set_cons_succ]
    have HLO := Lib.hid hlo1
    refine tree_do (o := ⟨_, _, _, _, _, _⟩) rfl (fun K hK => ?_)
    refine step_append_lies _ rfl _ _ 52 rfl 0 46 i0 _ 1 24 Tryz.underlying52 hi0 hz0 hz1 hz2 rfl (by decide) v1 H.length us rfl HO3.out ⟨nb, 0, none⟩ 1 1 [.slice q L.length cq] rfl rfl HNW.out ?ea (by decide) ?eb ?ec (Nat.zero_le _) _ rfl ?ed
    case ea => intro x hx; simp at hx; subst hx; rfl
    case eb => unfold maxLen; omega
    case ec => omega
    case ed =>
      intro g' cap' w4 ho4 hgr4 hor hlt4
      have hb4 := HB3.out.grown hgr4 HB3.out.size HLO.out
      have hg4 : w.heap.size ≤ g' := by
        rcases hor with e | e
        · exact HLO.out g' e
        · rw [e]; exact HB3.out.size
      have HB4 := Lib.hid hb4
      have HG4 := Lib.hid hg4
      have HO4 := Lib.hid ho4
      refine hK.out _ _ (HKP.out _ hb4) (fun _ => ?_)
      clear hK K hb4 hg4 ho4 hgr4 hor HO3 HNW hlo1 HLO
      have hj4 := HKP.out _ HB4.out
      obtain ⟨X1, hX1⟩ : ∃ X, X = w4.setCell ⟨jb, 2, none⟩ (.slice (some ⟨b, off, none⟩) G.length G.length) := ⟨_, rfl⟩
      obtain ⟨X2, hX2⟩ : ∃ X, X = X1.setCell ⟨jb, 3, none⟩ (.slice (some ⟨g', 0, none⟩) (H.length + 1) cap') := ⟨_, rfl⟩
      have hj5 : JB X1 jb s false ((.slice (some ⟨b, off, none⟩) G.length G.length)) ((.slice pu H.length cu)) true := by rw [hX1]; exact JB.set hj4 2 _
      have hj6 : JB X2 jb s false ((.slice (some ⟨b, off, none⟩) G.length G.length)) ((.slice (some ⟨g', 0, none⟩) (H.length + 1) cap')) true := by rw [hX2]; exact JB.set hj5 3 _
      have hC6 : Chg (fun k => k = jb) w4 X2 := by rw [hX2, hX1]; exact ((Chg.refl (fun k => k = jb) w4).setCell (p := ⟨jb, 2, none⟩) (fun _ => rfl) _).setCell (p := ⟨jb, 3, none⟩) (fun _ => rfl) _
      have e1 := JB.f (o := 2) hj4
      have e2 := JB.f (o := 3) hj5
      obtain ⟨_, _, d2, d3, _⟩ := JB.c hj4
      obtain ⟨_, _, d4, d5, _⟩ := JB.c hj5
      have HJ6 := Lib.hid hj6
      have HC6 := Lib.hid hC6
      have HLT := Lib.hid hlt4
      clear hj4 hj5 hj6 hC6 hlt4
      try simp only [Act.put, List.setIfInBounds_toArray, List.set_cons_zero, List.set_cons_succ]
      refine tail_do (o := ⟨_, _, _, _, _, _⟩) rfl (fun K hK => ?_)
      go_simp
      refine hK.out _ _ ?_
      clear hK K
      try simp only [Act.put, List.setIfInBounds_toArray, List.set_cons_zero, List.set_cons_succ]
      refine tail_do (o := ⟨_, _, _, _, _, _⟩) rfl (fun K hK => ?_)
      go_simp
      refine hK.out _ _ ?_
      clear hK K
      try simp only [Act.put, List.setIfInBounds_toArray, List.set_cons_zero, List.set_cons_succ]
      rw [← hX1]
      clear hX1
      refine tail_do (o := ⟨_, _, _, _, _, _⟩) rfl (fun K hK => ?_)
      go_simp
      refine hK.out _ _ ?_
      clear hK K
      try simp only [Act.put, List.setIfInBounds_toArray, List.set_cons_zero, List.set_cons_succ]
      refine tail_do (o := ⟨_, _, _, _, _, _⟩) rfl (fun K hK => ?_)
      go_simp
      refine hK.out _ _ ?_
      clear hK K
      try simp only [Act.put, List.setIfInBounds_toArray, List.set_cons_zero, List.set_cons_succ]
      rw [← hX2]
      clear hX2 e1 e2 d2 d3 d4 d5
      simp only [inTail]
      have hjg : jb ≠ g' := by have := HG4.out; omega
      have hst6 : Stp Z X2 (.slice q L.length cq) L := Rw.keep (Rw.later HST.out HB4.out) HC6.out (fun k hk e => hz (e ▸ hk))
      have HOW := Lib.hid (owns_any _ L X2 hst6 (by omega))
      go_wp2_with fail
      refine HOW.out.mono ?_
      rintro e w7 ⟨⟨v7, rfl, h7⟩, hb7⟩
      have H7 := Lib.hid (And.intro h7 hb7)
      clear h7 hb7 HOW
      go_wp2_with fail
      go_ret2
      have hb7 := H7.out.2
      have h4 := HB4.out.size
      have h6 := HC6.out.size
      have h7 := hb7.size
      have hC : Chg (fun k => k = jb) w w7 := ((Chg.of_below HB4.out).trans HC6.out).trans (Chg.of_below hb7)
      refine ⟨⟨v7, rfl, H7.out.1.mono fun k hk => ⟨by omega, hk.2⟩⟩, ⟨_, _, HJ6.out.later hb7, ?_, ?_⟩, hC⟩
      · -- the groups that are left
        have hr := HROW.out.keep hC (fun k hk e => hz (e ▸ hk))
        have hxl : xs.length = G.length + 1 := by have := hr.1; omega
        refine ⟨xs.take G.length, ⟨by rw [List.length_take]; omega, ?_⟩, fun i M hM => ?_⟩
        · rcases hr.2 with ⟨h0, _⟩ | ⟨b', off', c', e, hc, hzz, k⟩
          · omega
          · cases e
            refine .inr ⟨b, off, G.length, rfl, Nat.le_refl _, .inl hzz, fun j x hj => k j x ?_⟩
            rw [List.getElem?_take] at hj
            split at hj
            · exact hj
            · cases hj
        · have hi := (List.getElem?_eq_some_iff.1 hM).1
          obtain ⟨y, hy, hsy⟩ := HEL.out i M (by rw [List.getElem?_append_left hi]; exact hM)
          exact ⟨y, by rw [List.getElem?_take, if_pos hi]; exact hy, (hsy.keep hC (fun k hk e => hz (e ▸ hk))).mono fun k hk => .inl hk⟩
      · have hlen : (H ++ [L]).length = H.length + 1 := by simp
        have hul : us.length = H.length := by have := HUR.out.1; omega
        have hr6 := ((Rw.of_own HO4.out (by decide)).block (Z' := fun k => k = g') rfl).keep HC6.out (fun k hk e => hjg (by omega))
        refine ⟨us ++ [.slice q L.length cq], by rw [hlen]; exact (Rw.later hr6 hb7).mono (fun k hk => .inr (by subst hk; exact ⟨HG4.out, by have := HLT.out; omega⟩)), fun i M hM => ?_⟩
        by_cases hi : i < H.length
        · rw [List.getElem?_append_left hi] at hM
          obtain ⟨y, hy, hsy⟩ := HUE.out i M hM
          exact ⟨y, by rw [List.getElem?_append_left (by omega)]; exact hy, (hsy.keep hC (fun k hk e => hz (e ▸ hk))).mono fun k hk => .inl hk⟩
        · have hlt := (List.getElem?_eq_some_iff.1 hM).1
          simp at hlt
          have e : i = H.length := by omega
          subst e
          simp at hM
          subst hM
          exact ⟨_, by rw [← hul]; simp, (Rw.later hst6 hb7).mono fun k hk => .inl hk⟩
  -- the box first
  · go_simp
    obtain ⟨nb, hnb⟩ : ∃ nb, nb = W0.heap.size := ⟨_, rfl⟩
    obtain ⟨W3, hW3⟩ : ∃ Y, Y = W0.alloc (.cells #[.slice q L.length cq] 46) := ⟨_, rfl⟩
    have hb23 : Below W0.heap.size W0 W3 := by rw [hW3]; exact (Below.refl _ _).alloc (Nat.le_refl _) _
    have hnw : ∀ j x, ([.slice q L.length cq] : List Value)[j]? = some x → W3.cell? ((⟨nb, 0, none⟩ : Addr).add j) = some x := by rw [hW3, hnb]; exact cells_new W0 [.slice q L.length cq] 46
    rw [← hW3, ← hnb]
    have HB2 := Lib.hid (HB0.out.trans (hb23.mono HB0.out.size))
    refine hK.out _ _ (HKP.out _ HB2.out) (fun _ => ?_)
    clear hK K hb23 hW3 hnb HB0
    try simp only [Act.put, List.setIfInBounds_toArray, List.set_cons_zero, List.set_cons_succ]
    refine tree_do (o := ⟨_, _, _, _, _, _⟩) rfl (fun K hK => ?_)
    have HCL := Lib.hid (cl32_any (.slice pu H.length cu) H.length us W3 (Rw.later HUR.out HB2.out) (by omega) HONE.out)
    go_simp
    refine HCL.out.mono ?_
    rintro e W1 ⟨v1, rfl, ho1, hb1⟩
    have hlo1 : ∀ k, v1.ownBlock = some k → w.heap.size ≤ k := fun k hk => Nat.le_trans HB2.out.size (ownsRow_lo ho1 hk).1
    have HB3 := Lib.hid (HB2.out.trans (hb1.mono HB2.out.size))
    have HO3 := Lib.hid (ownsRow_rebase (base' := 0) ho1 (fun _ _ => Nat.zero_le _))
    have HNW := Lib.hid (fun j x (hj : ([.slice q L.length cq] : List Value)[j]? = some x) => (hb1.cell (World.block_lt_of_cell? W3 _ (hnw j x hj))).trans (hnw j x hj))
    refine hK.out _ _ (HKP.out _ HB3.out) (fun _ => ?_)
    clear hK K hb1 ho1 HCL hnw HB2
    try simp only [Act.put, List.setIfInBounds_toArray, List.set_cons_zero, List.set_cons_succ]
    have HLO := Lib.hid hlo1
    refine tree_do (o := ⟨_, _, _, _, _, _⟩) rfl (fun K hK => ?_)
    refine step_append_lies _ rfl _ _ 52 rfl 0 46 i0 _ 1 24 Tryz.underlying52 hi0 hz0 hz1 hz2 rfl (by decide) v1 H.length us rfl HO3.out ⟨nb, 0, none⟩ 1 1 [.slice q L.length cq] rfl rfl HNW.out ?ea (by decide) ?eb ?ec (Nat.zero_le _) _ rfl ?ed
    case ea => intro x hx; simp at hx; subst hx; rfl
    case eb => unfold maxLen; omega
    case ec => omega
    case ed =>
      intro g' cap' w4 ho4 hgr4 hor hlt4
      have hb4 := HB3.out.grown hgr4 HB3.out.size HLO.out
      have hg4 : w.heap.size ≤ g' := by
        rcases hor with e | e
        · exact HLO.out g' e
        · rw [e]; exact HB3.out.size
      have HB4 := Lib.hid hb4
      have HG4 := Lib.hid hg4
      have HO4 := Lib.hid ho4
      refine hK.out _ _ (HKP.out _ hb4) (fun _ => ?_)
      clear hK K hb4 hg4 ho4 hgr4 hor HO3 HNW hlo1 HLO
      have hj4 := HKP.out _ HB4.out
      obtain ⟨X1, hX1⟩ : ∃ X, X = w4.setCell ⟨jb, 2, none⟩ (.slice (some ⟨b, off, none⟩) G.length G.length) := ⟨_, rfl⟩
      obtain ⟨X2, hX2⟩ : ∃ X, X = X1.setCell ⟨jb, 3, none⟩ (.slice (some ⟨g', 0, none⟩) (H.length + 1) cap') := ⟨_, rfl⟩
      have hj5 : JB X1 jb s false ((.slice (some ⟨b, off, none⟩) G.length G.length)) ((.slice pu H.length cu)) true := by rw [hX1]; exact JB.set hj4 2 _
      have hj6 : JB X2 jb s false ((.slice (some ⟨b, off, none⟩) G.length G.length)) ((.slice (some ⟨g', 0, none⟩) (H.length + 1) cap')) true := by rw [hX2]; exact JB.set hj5 3 _
      have hC6 : Chg (fun k => k = jb) w4 X2 := by rw [hX2, hX1]; exact ((Chg.refl (fun k => k = jb) w4).setCell (p := ⟨jb, 2, none⟩) (fun _ => rfl) _).setCell (p := ⟨jb, 3, none⟩) (fun _ => rfl) _
      have e1 := JB.f (o := 2) hj4
      have e2 := JB.f (o := 3) hj5
      obtain ⟨_, _, d2, d3, _⟩ := JB.c hj4
      obtain ⟨_, _, d4, d5, _⟩ := JB.c hj5
      have HJ6 := Lib.hid hj6
      have HC6 := Lib.hid hC6
      have HLT := Lib.hid hlt4
      clear hj4 hj5 hj6 hC6 hlt4
      try simp only [Act.put, List.setIfInBounds_toArray, List.set_cons_zero, List.set_cons_succ]
      refine tail_do (o := ⟨_, _, _, _, _, _⟩) rfl (fun K hK => ?_)
      go_simp
      refine hK.out _ _ ?_
      clear hK K
      try simp only [Act.put, List.setIfInBounds_toArray, List.set_cons_zero, List.set_cons_succ]
      refine tail_do (o := ⟨_, _, _, _, _, _⟩) rfl (fun K hK => ?_)
      go_simp
      refine hK.out _ _ ?_
      clear hK K
      try simp only [Act.put, List.setIfInBounds_toArray, List.set_cons_zero, List.set_cons_succ]
      rw [← hX1]
      clear hX1
      refine tail_do (o := ⟨_, _, _, _, _, _⟩) rfl (fun K hK => ?_)
      go_simp
      refine hK.out _ _ ?_
      clear hK K
      try simp only [Act.put, List.setIfInBounds_toArray, List.set_cons_zero, List.set_cons_succ]
      refine tail_do (o := ⟨_, _, _, _, _, _⟩) rfl (fun K hK => ?_)
      go_simp
      refine hK.out _ _ ?_
      clear hK K
      try simp only [Act.put, List.setIfInBounds_toArray, List.set_cons_zero, List.set_cons_succ]
      rw [← hX2]
      clear hX2 e1 e2 d2 d3 d4 d5
      simp only [inTail]
      have hjg : jb ≠ g' := by have := HG4.out; omega
      have hst6 : Stp Z X2 (.slice q L.length cq) L := Rw.keep (Rw.later HST.out HB4.out) HC6.out (fun k hk e => hz (e ▸ hk))
      have HOW := Lib.hid (owns_any _ L X2 hst6 (by omega))
      go_wp2_with fail
      refine HOW.out.mono ?_
      rintro e w7 ⟨⟨v7, rfl, h7⟩, hb7⟩
      have H7 := Lib.hid (And.intro h7 hb7)
      clear h7 hb7 HOW
      go_wp2_with fail
      go_ret2
      have hb7 := H7.out.2
      have h4 := HB4.out.size
      have h6 := HC6.out.size
      have h7 := hb7.size
      have hC : Chg (fun k => k = jb) w w7 := ((Chg.of_below HB4.out).trans HC6.out).trans (Chg.of_below hb7)
      refine ⟨⟨v7, rfl, H7.out.1.mono fun k hk => ⟨by omega, hk.2⟩⟩, ⟨_, _, HJ6.out.later hb7, ?_, ?_⟩, hC⟩
      · -- the groups that are left
        have hr := HROW.out.keep hC (fun k hk e => hz (e ▸ hk))
        have hxl : xs.length = G.length + 1 := by have := hr.1; omega
        refine ⟨xs.take G.length, ⟨by rw [List.length_take]; omega, ?_⟩, fun i M hM => ?_⟩
        · rcases hr.2 with ⟨h0, _⟩ | ⟨b', off', c', e, hc, hzz, k⟩
          · omega
          · cases e
            refine .inr ⟨b, off, G.length, rfl, Nat.le_refl _, .inl hzz, fun j x hj => k j x ?_⟩
            rw [List.getElem?_take] at hj
            split at hj
            · exact hj
            · cases hj
        · have hi := (List.getElem?_eq_some_iff.1 hM).1
          obtain ⟨y, hy, hsy⟩ := HEL.out i M (by rw [List.getElem?_append_left hi]; exact hM)
          exact ⟨y, by rw [List.getElem?_take, if_pos hi]; exact hy, (hsy.keep hC (fun k hk e => hz (e ▸ hk))).mono fun k hk => .inl hk⟩
      · have hlen : (H ++ [L]).length = H.length + 1 := by simp
        have hul : us.length = H.length := by have := HUR.out.1; omega
        have hr6 := ((Rw.of_own HO4.out (by decide)).block (Z' := fun k => k = g') rfl).keep HC6.out (fun k hk e => hjg (by omega))
        refine ⟨us ++ [.slice q L.length cq], by rw [hlen]; exact (Rw.later hr6 hb7).mono (fun k hk => .inr (by subst hk; exact ⟨HG4.out, by have := HLT.out; omega⟩)), fun i M hM => ?_⟩
        by_cases hi : i < H.length
        · rw [List.getElem?_append_left hi] at hM
          obtain ⟨y, hy, hsy⟩ := HUE.out i M hM
          exact ⟨y, by rw [List.getElem?_append_left (by omega)]; exact hy, (hsy.keep hC (fun k hk e => hz (e ▸ hk))).mono fun k hk => .inl hk⟩
        · have hlt := (List.getElem?_eq_some_iff.1 hM).1
          simp at hlt
          have e : i = H.length := by omega
          subst e
          simp at hM
          subst hM
          exact ⟨_, by rw [← hul]; simp, (Rw.later hst6 hb7).mono fun k hk => .inl hk⟩

set_option maxHeartbeats 4000000 in
set_option maxRecDepth 100000 in
theorem fore_ok {Z : Nat → Prop} (jb : Nat) (s d u : Value) (L : List (Bool × Int)) (G H : List (List (Bool × Int))) (w : World) (h : JB w jb s false (u) (d) true) (hd : Grp Z w d (G ++ [L])) (hu : Grp Z w u H) (hz : ¬ Z jb) (hG : G.length ≤ 100) (hH : H.length ≤ 100) (hL : L.length ≤ 1000) :
    Calls Tryz.prog 42 #[.pointer (some ⟨jb, 0, none⟩), .func (.func 44) #[.pointer (some ⟨jb, 0, none⟩)] #[], .func (.func 43) #[.pointer (some ⟨jb, 0, none⟩)] #[]] w fun e w' => (∃ v, e = .returned (.tuple #[v, .int .i64 0]) ∧ Stp (fun k => w.heap.size ≤ k ∧ k < w'.heap.size) w' v L) ∧
      (∃ d' u', JB w' jb s false (u') (d') true ∧ Grp (fun k => Z k ∨ (w.heap.size ≤ k ∧ k < w'.heap.size)) w' d' G ∧ Grp (fun k => Z k ∨ (w.heap.size ≤ k ∧ k < w'.heap.size)) w' u' (H ++ [L])) ∧ Chg (fun k => k = jb) w w' := by
  obtain ⟨xs, hrow, hel⟩ := hd
  obtain ⟨us, hurow, huel⟩ := hu
  have hgl : (G ++ [L]).length = G.length + 1 := by simp
  rw [hgl] at hrow
  obtain ⟨b, off, cap, rfl, hcap, hzb, hcell⟩ := hrow.at_ (i := G.length) (by omega)
  obtain ⟨u0, hu0, hc0⟩ := hcell 0 (by decide)
  rw [Nat.mul_one, Nat.add_zero] at hu0
  simp only [Nat.mul_one, Nat.add_zero] at hc0
  obtain ⟨v, hv, hst⟩ := hel G.length L (by simp)
  rw [hu0] at hv
  cases hv
  obtain ⟨q, cq, rfl⟩ := Rw.slice hst
  obtain ⟨pu, cu, rfl⟩ := Rw.slice hurow
  have hones := Grp.ones (by have := hurow.1; omega) huel
  have HN := Lib.hid (none_any jb s _ _ false true w h)
  have hjl := h.lt
  have HJ := Lib.hid h
  have HROW := Lib.hid hrow
  have HEL := Lib.hid hel
  have HUR := Lib.hid hurow
  have HUE := Lib.hid huel
  have HST := Lib.hid hst
  have HONE := Lib.hid hones
  obtain ⟨c0, c1, c2, c3, c4⟩ := h.c
  have eF := enters_of Tryz.func44 (by kernel_rfl) rfl
  have eT := enters_of Tryz.func43 (by kernel_rfl) rfl
  have HF := Lib.hid (fun X => past44_any jb X)
  have HT := Lib.hid (fun X => past43_any jb X)
  have HC0 := Lib.hid hc0
  clear h hrow hel hurow huel hst hones hcell hc0 hu0 hgl
  go_enter Tryz.func42, Tryz.ntmps42
  go_wp2_with fail
  refine HN.out.mono ?_
  rintro e w1 ⟨rfl, rfl⟩
  go_wp2_with fail
  refine (HF.out _).mono ?_
  rintro e w1 ⟨rfl, rfl⟩
  go_wp2_with fail
  refine (HT.out _).mono ?_
  rintro e w1 ⟨rfl, rfl⟩
  have hc0 := HC0.out
  go_upto_region 10 with fail
  clear c0 c1 c2 c3 c4 hc0 eF eT HN HF HT
  obtain ⟨i0, hi0, hz0, hz1, hz2⟩ := info_parts Tryz.info46
  have hcg : ¬ (cap < G.length) := by omega
  have HKP : Hid (∀ X, Below w.heap.size w X → JB X jb s false ((.slice pu H.length cu)) ((.slice (some ⟨b, off, none⟩) (G.length + 1) cap)) true) := Lib.hid fun X hX => HJ.out.later hX
  refine wp_region_tree (fun X => JB X jb s false ((.slice pu H.length cu)) ((.slice (some ⟨b, off, none⟩) (G.length + 1) cap)) true) [0, 1, 2, 3, 5, 6, 8, 9, 12] (.take 4 (.take 7 (.take 10 (.two 11 13 (.step 13 (.step 14 .nil)) (.step 11 (.step 14 .nil)))))) [15, 16, 17, 18] (by kernel_rfl) (by kernel_rfl) (fun c a d v w h => by simp only [Exit.then] at h ⊢; cases d <;> exact h) ?_
  refine pre_take (o := ⟨_, _, _, _, _, _⟩) (v := ?_) rfl (Or.inl ⟨by rfl, ?_⟩) ?_
  rotate_left
  · (intro X; go_simp; try with_reducible rfl)
  try simp only [Act.put, List.setIfInBounds_toArray, List.set_cons_zero, List.set_cons_succ]
  refine pre_take (o := ⟨_, _, _, _, _, _⟩) (v := ?_) rfl (Or.inl ⟨by rfl, ?_⟩) ?_
  rotate_left
  · (intro X; go_simp; try with_reducible rfl)
  try simp only [Act.put, List.setIfInBounds_toArray, List.set_cons_zero, List.set_cons_succ]
  refine pre_take (o := ⟨_, _, _, _, _, _⟩) (v := ?_) rfl (Or.inl ⟨by rfl, ?_⟩) ?_
  rotate_left
  · (intro X; go_simp; try with_reducible rfl)
  try simp only [Act.put, List.setIfInBounds_toArray, List.set_cons_zero, List.set_cons_succ]
  refine pre_take (o := ⟨_, _, _, _, _, _⟩) (v := ?_) rfl (Or.inl ⟨by rfl, ?_⟩) ?_
  rotate_left
  · (intro X; go_simp; try with_reducible rfl)
  try simp only [Act.put, List.setIfInBounds_toArray, List.set_cons_zero, List.set_cons_succ]
  refine pre_take (o := ⟨_, _, _, _, _, _⟩) (v := ?_) rfl (Or.inl ⟨by rfl, ?_⟩) ?_
  rotate_left
  · (intro X; go_simp; try with_reducible rfl)
  try simp only [Act.put, List.setIfInBounds_toArray, List.set_cons_zero, List.set_cons_succ]
  refine pre_take (o := ⟨_, _, _, _, _, _⟩) (v := ?_) rfl (Or.inl ⟨by rfl, ?_⟩) ?_
  rotate_left
  · (intro X; go_simp; try with_reducible rfl)
  try simp only [Act.put, List.setIfInBounds_toArray, List.set_cons_zero, List.set_cons_succ]
  refine pre_take (o := ⟨_, _, _, _, _, _⟩) (v := ?_) rfl (Or.inl ⟨by rfl, ?_⟩) ?_
  rotate_left
  · (intro X; go_simp; try with_reducible rfl)
  try simp only [Act.put, List.setIfInBounds_toArray, List.set_cons_zero, List.set_cons_succ]
  refine pre_take (o := ⟨_, _, _, _, _, _⟩) (v := ?_) rfl (Or.inl ⟨by rfl, ?_⟩) ?_
  rotate_left
  · (intro X; go_simp; try with_reducible rfl)
  try simp only [Act.put, List.setIfInBounds_toArray, List.set_cons_zero, List.set_cons_succ]
  refine pre_take (o := ⟨_, _, _, _, _, _⟩) (v := ?_) rfl (Or.inl ⟨by rfl, ?_⟩) ?_
  rotate_left
  · (intro X; go_simp; try with_reducible rfl)
  try simp only [Act.put, List.setIfInBounds_toArray, List.set_cons_zero, List.set_cons_succ]
  refine ⟨HKP.out _ (below_drewN (Below.refl _ _) 1), ?_⟩
  refine tree_take (o := ⟨_, _, _, _, _, _⟩) (v := ?_) rfl (Or.inl ⟨by rfl, ?_⟩) ?_
  rotate_left
  · (rintro X z1; have z3 := (JB.c z1).2.2.2.1; go_simp; try with_reducible rfl)
  try simp only [Act.put, List.setIfInBounds_toArray, List.set_cons_zero, List.set_cons_succ]
  refine tree_take (o := ⟨_, _, _, _, _, _⟩) (v := .slice (some ⟨b, off, none⟩) G.length G.length) rfl (Or.inl ⟨by rfl, ?_⟩) ?_
  · (rintro X z1; go_simp)
  try simp only [Act.put, List.setIfInBounds_toArray, List.set_cons_zero, List.set_cons_succ]
  refine tree_take (o := ⟨_, _, _, _, _, _⟩) (v := ?_) rfl (Or.inl ⟨by rfl, ?_⟩) ?_
  rotate_left
  · (rintro X z1; have z3 := (JB.c z1).2.2.1; go_simp; try with_reducible rfl)
  try simp only [Act.put, List.setIfInBounds_toArray, List.set_cons_zero, List.set_cons_succ]
  obtain ⟨W0, hW0⟩ : ∃ Y, Y = w.drew := ⟨_, rfl⟩
  have hb20 : Below w.heap.size w W0 := by rw [hW0]; exact below_drewN (Below.refl _ _) 1
  rw [← hW0]
  clear hW0
  have HB0 := Lib.hid hb20
  clear hb20
  refine tree_two (oi := ⟨_, _, _, _, _, _⟩) (oj := ⟨_, _, _, _, _, _⟩) rfl rfl (fun K hK => ?_) (fun K hK => ?_)
  -- the clone first
  · have HCL := Lib.hid (cl32_any (.slice pu H.length cu) H.length us W0 (Rw.later HUR.out HB0.out) (by omega) HONE.out)
    go_simp
    refine HCL.out.mono ?_
    rintro e W1 ⟨v1, rfl, ho1, hb1⟩
    have hlo1 : ∀ k, v1.ownBlock = some k → w.heap.size ≤ k := fun k hk => Nat.le_trans HB0.out.size (ownsRow_lo ho1 hk).1
    have HO1 := Lib.hid ho1
    have HB1 := Lib.hid (HB0.out.trans (hb1.mono HB0.out.size))
    refine hK.out _ _ (HKP.out _ HB1.out) (fun _ => ?_)
    clear hK K hb1 ho1 HCL
    try simp only [Act.put, List.setIfInBounds_toArray, List.set_cons_zero, List.set_cons_succ]
    refine tree_do (o := ⟨_, _, _, _, _, _⟩) rfl (fun K hK => ?_)
    go_simp
    obtain ⟨nb, hnb⟩ : ∃ nb, nb = W1.heap.size := ⟨_, rfl⟩
    obtain ⟨W3, hW3⟩ : ∃ Y, Y = W1.alloc (.cells #[.slice q L.length cq] 46) := ⟨_, rfl⟩
    have hb23 : Below W1.heap.size W1 W3 := by rw [hW3]; exact (Below.refl _ _).alloc (Nat.le_refl _) _
    have hnw : ∀ j x, ([.slice q L.length cq] : List Value)[j]? = some x → W3.cell? ((⟨nb, 0, none⟩ : Addr).add j) = some x := by rw [hW3, hnb]; exact cells_new W1 [.slice q L.length cq] 46
    rw [← hW3, ← hnb]
    have HB3 := Lib.hid (HB1.out.trans (hb23.mono HB1.out.size))
    have HO3 := Lib.hid (ownsRow_rebase (base' := 0) (ownsRow_below HO1.out hb23) (fun _ _ => Nat.zero_le _))
    have HNW := Lib.hid hnw
    refine hK.out _ _ (HKP.out _ HB3.out) (fun _ => ?_)
    clear hK K hb23 hnw hW3 hnb HB1 HO1 HB0
    try simp only [Act.put, List.setIfInBounds_toArray, List.set_cons_zero, List.set_cons_succ]
    have HLO := Lib.hid hlo1
    refine tree_do (o := ⟨_, _, _, _, _, _⟩) rfl (fun K hK => ?_)
    refine step_append_lies _ rfl _ _ 52 rfl 0 46 i0 _ 1 24 Tryz.underlying52 hi0 hz0 hz1 hz2 rfl (by decide) v1 H.length us rfl HO3.out ⟨nb, 0, none⟩ 1 1 [.slice q L.length cq] rfl rfl HNW.out ?ea (by decide) ?eb ?ec (Nat.zero_le _) _ rfl ?ed
    case ea => intro x hx; simp at hx; subst hx; rfl
    case eb => unfold maxLen; omega
    case ec => omega
    case ed =>
      intro g' cap' w4 ho4 hgr4 hor hlt4
      have hb4 := HB3.out.grown hgr4 HB3.out.size HLO.out
      have hg4 : w.heap.size ≤ g' := by
        rcases hor with e | e
        · exact HLO.out g' e
        · rw [e]; exact HB3.out.size
      have HB4 := Lib.hid hb4
      have HG4 := Lib.hid hg4
      have HO4 := Lib.hid ho4
      refine hK.out _ _ (HKP.out _ hb4) (fun _ => ?_)
      clear hK K hb4 hg4 ho4 hgr4 hor HO3 HNW hlo1 HLO
      have hj4 := HKP.out _ HB4.out
      obtain ⟨X1, hX1⟩ : ∃ X, X = w4.setCell ⟨jb, 3, none⟩ (.slice (some ⟨b, off, none⟩) G.length G.length) := ⟨_, rfl⟩
      obtain ⟨X2, hX2⟩ : ∃ X, X = X1.setCell ⟨jb, 2, none⟩ (.slice (some ⟨g', 0, none⟩) (H.length + 1) cap') := ⟨_, rfl⟩
      have hj5 : JB X1 jb s false ((.slice pu H.length cu)) ((.slice (some ⟨b, off, none⟩) G.length G.length)) true := by rw [hX1]; exact JB.set hj4 3 _
      have hj6 : JB X2 jb s false ((.slice (some ⟨g', 0, none⟩) (H.length + 1) cap')) ((.slice (some ⟨b, off, none⟩) G.length G.length)) true := by rw [hX2]; exact JB.set hj5 2 _
      have hC6 : Chg (fun k => k = jb) w4 X2 := by rw [hX2, hX1]; exact ((Chg.refl (fun k => k = jb) w4).setCell (p := ⟨jb, 3, none⟩) (fun _ => rfl) _).setCell (p := ⟨jb, 2, none⟩) (fun _ => rfl) _
      have e1 := JB.f (o := 3) hj4
      have e2 := JB.f (o := 2) hj5
      obtain ⟨_, _, d2, d3, _⟩ := JB.c hj4
      obtain ⟨_, _, d4, d5, _⟩ := JB.c hj5
      have HJ6 := Lib.hid hj6
      have HC6 := Lib.hid hC6
      have HLT := Lib.hid hlt4
      clear hj4 hj5 hj6 hC6 hlt4
      try simp only [Act.put, List.setIfInBounds_toArray, List.set_cons_zero, List.set_cons_succ]
      refine tail_do (o := ⟨_, _, _, _, _, _⟩) rfl (fun K hK => ?_)
      go_simp
      refine hK.out _ _ ?_
      clear hK K
      try simp only [Act.put, List.setIfInBounds_toArray, List.set_cons_zero, List.set_cons_succ]
      refine tail_do (o := ⟨_, _, _, _, _, _⟩) rfl (fun K hK => ?_)
      go_simp
      refine hK.out _ _ ?_
      clear hK K
      try simp only [Act.put, List.setIfInBounds_toArray, List.set_cons_zero, List.set_cons_succ]
      rw [← hX1]
      clear hX1
      refine tail_do (o := ⟨_, _, _, _, _, _⟩) rfl (fun K hK => ?_)
      go_simp
      refine hK.out _ _ ?_
      clear hK K
      try simp only [Act.put, List.setIfInBounds_toArray, List.set_cons_zero, List.set_cons_succ]
      refine tail_do (o := ⟨_, _, _, _, _, _⟩) rfl (fun K hK => ?_)
      go_simp
      refine hK.out _ _ ?_
      clear hK K
      try simp only [Act.put, List.setIfInBounds_toArray, List.set_cons_zero, List.set_cons_succ]
      rw [← hX2]
      clear hX2 e1 e2 d2 d3 d4 d5
      simp only [inTail]
      have hjg : jb ≠ g' := by have := HG4.out; omega
      have hst6 : Stp Z X2 (.slice q L.length cq) L := Rw.keep (Rw.later HST.out HB4.out) HC6.out (fun k hk e => hz (e ▸ hk))
      have HOW := Lib.hid (owns_any _ L X2 hst6 (by omega))
      go_wp2_with fail
      refine HOW.out.mono ?_
      rintro e w7 ⟨⟨v7, rfl, h7⟩, hb7⟩
      have H7 := Lib.hid (And.intro h7 hb7)
      clear h7 hb7 HOW
      go_wp2_with fail
      go_ret2
      have hb7 := H7.out.2
      have h4 := HB4.out.size
      have h6 := HC6.out.size
      have h7 := hb7.size
      have hC : Chg (fun k => k = jb) w w7 := ((Chg.of_below HB4.out).trans HC6.out).trans (Chg.of_below hb7)
      refine ⟨⟨v7, rfl, H7.out.1.mono fun k hk => ⟨by omega, hk.2⟩⟩, ⟨_, _, HJ6.out.later hb7, ?_, ?_⟩, hC⟩
      · -- the groups that are left
        have hr := HROW.out.keep hC (fun k hk e => hz (e ▸ hk))
        have hxl : xs.length = G.length + 1 := by have := hr.1; omega
        refine ⟨xs.take G.length, ⟨by rw [List.length_take]; omega, ?_⟩, fun i M hM => ?_⟩
        · rcases hr.2 with ⟨h0, _⟩ | ⟨b', off', c', e, hc, hzz, k⟩
          · omega
          · cases e
            refine .inr ⟨b, off, G.length, rfl, Nat.le_refl _, .inl hzz, fun j x hj => k j x ?_⟩
            rw [List.getElem?_take] at hj
            split at hj
            · exact hj
            · cases hj
        · have hi := (List.getElem?_eq_some_iff.1 hM).1
          obtain ⟨y, hy, hsy⟩ := HEL.out i M (by rw [List.getElem?_append_left hi]; exact hM)
          exact ⟨y, by rw [List.getElem?_take, if_pos hi]; exact hy, (hsy.keep hC (fun k hk e => hz (e ▸ hk))).mono fun k hk => .inl hk⟩
      · have hlen : (H ++ [L]).length = H.length + 1 := by simp
        have hul : us.length = H.length := by have := HUR.out.1; omega
        have hr6 := ((Rw.of_own HO4.out (by decide)).block (Z' := fun k => k = g') rfl).keep HC6.out (fun k hk e => hjg (by omega))
        refine ⟨us ++ [.slice q L.length cq], by rw [hlen]; exact (Rw.later hr6 hb7).mono (fun k hk => .inr (by subst hk; exact ⟨HG4.out, by have := HLT.out; omega⟩)), fun i M hM => ?_⟩
        by_cases hi : i < H.length
        · rw [List.getElem?_append_left hi] at hM
          obtain ⟨y, hy, hsy⟩ := HUE.out i M hM
          exact ⟨y, by rw [List.getElem?_append_left (by omega)]; exact hy, (hsy.keep hC (fun k hk e => hz (e ▸ hk))).mono fun k hk => .inl hk⟩
        · have hlt := (List.getElem?_eq_some_iff.1 hM).1
          simp at hlt
          have e : i = H.length := by omega
          subst e
          simp at hM
          subst hM
          exact ⟨_, by rw [← hul]; simp, (Rw.later hst6 hb7).mono fun k hk => .inl hk⟩
  -- the box first
  · go_simp
    obtain ⟨nb, hnb⟩ : ∃ nb, nb = W0.heap.size := ⟨_, rfl⟩
    obtain ⟨W3, hW3⟩ : ∃ Y, Y = W0.alloc (.cells #[.slice q L.length cq] 46) := ⟨_, rfl⟩
    have hb23 : Below W0.heap.size W0 W3 := by rw [hW3]; exact (Below.refl _ _).alloc (Nat.le_refl _) _
    have hnw : ∀ j x, ([.slice q L.length cq] : List Value)[j]? = some x → W3.cell? ((⟨nb, 0, none⟩ : Addr).add j) = some x := by rw [hW3, hnb]; exact cells_new W0 [.slice q L.length cq] 46
    rw [← hW3, ← hnb]
    have HB2 := Lib.hid (HB0.out.trans (hb23.mono HB0.out.size))
    refine hK.out _ _ (HKP.out _ HB2.out) (fun _ => ?_)
    clear hK K hb23 hW3 hnb HB0
    try simp only [Act.put, List.setIfInBounds_toArray, List.set_cons_zero, List.set_cons_succ]
    refine tree_do (o := ⟨_, _, _, _, _, _⟩) rfl (fun K hK => ?_)
    have HCL := Lib.hid (cl32_any (.slice pu H.length cu) H.length us W3 (Rw.later HUR.out HB2.out) (by omega) HONE.out)
    go_simp
    refine HCL.out.mono ?_
    rintro e W1 ⟨v1, rfl, ho1, hb1⟩
    have hlo1 : ∀ k, v1.ownBlock = some k → w.heap.size ≤ k := fun k hk => Nat.le_trans HB2.out.size (ownsRow_lo ho1 hk).1
    have HB3 := Lib.hid (HB2.out.trans (hb1.mono HB2.out.size))
    have HO3 := Lib.hid (ownsRow_rebase (base' := 0) ho1 (fun _ _ => Nat.zero_le _))
    have HNW := Lib.hid (fun j x (hj : ([.slice q L.length cq] : List Value)[j]? = some x) => (hb1.cell (World.block_lt_of_cell? W3 _ (hnw j x hj))).trans (hnw j x hj))
    refine hK.out _ _ (HKP.out _ HB3.out) (fun _ => ?_)
    clear hK K hb1 ho1 HCL hnw HB2
    try simp only [Act.put, List.setIfInBounds_toArray, List.set_cons_zero, List.set_cons_succ]
    have HLO := Lib.hid hlo1
    refine tree_do (o := ⟨_, _, _, _, _, _⟩) rfl (fun K hK => ?_)
    refine step_append_lies _ rfl _ _ 52 rfl 0 46 i0 _ 1 24 Tryz.underlying52 hi0 hz0 hz1 hz2 rfl (by decide) v1 H.length us rfl HO3.out ⟨nb, 0, none⟩ 1 1 [.slice q L.length cq] rfl rfl HNW.out ?ea (by decide) ?eb ?ec (Nat.zero_le _) _ rfl ?ed
    case ea => intro x hx; simp at hx; subst hx; rfl
    case eb => unfold maxLen; omega
    case ec => omega
    case ed =>
      intro g' cap' w4 ho4 hgr4 hor hlt4
      have hb4 := HB3.out.grown hgr4 HB3.out.size HLO.out
      have hg4 : w.heap.size ≤ g' := by
        rcases hor with e | e
        · exact HLO.out g' e
        · rw [e]; exact HB3.out.size
      have HB4 := Lib.hid hb4
      have HG4 := Lib.hid hg4
      have HO4 := Lib.hid ho4
      refine hK.out _ _ (HKP.out _ hb4) (fun _ => ?_)
      clear hK K hb4 hg4 ho4 hgr4 hor HO3 HNW hlo1 HLO
      have hj4 := HKP.out _ HB4.out
      obtain ⟨X1, hX1⟩ : ∃ X, X = w4.setCell ⟨jb, 3, none⟩ (.slice (some ⟨b, off, none⟩) G.length G.length) := ⟨_, rfl⟩
      obtain ⟨X2, hX2⟩ : ∃ X, X = X1.setCell ⟨jb, 2, none⟩ (.slice (some ⟨g', 0, none⟩) (H.length + 1) cap') := ⟨_, rfl⟩
      have hj5 : JB X1 jb s false ((.slice pu H.length cu)) ((.slice (some ⟨b, off, none⟩) G.length G.length)) true := by rw [hX1]; exact JB.set hj4 3 _
      have hj6 : JB X2 jb s false ((.slice (some ⟨g', 0, none⟩) (H.length + 1) cap')) ((.slice (some ⟨b, off, none⟩) G.length G.length)) true := by rw [hX2]; exact JB.set hj5 2 _
      have hC6 : Chg (fun k => k = jb) w4 X2 := by rw [hX2, hX1]; exact ((Chg.refl (fun k => k = jb) w4).setCell (p := ⟨jb, 3, none⟩) (fun _ => rfl) _).setCell (p := ⟨jb, 2, none⟩) (fun _ => rfl) _
      have e1 := JB.f (o := 3) hj4
      have e2 := JB.f (o := 2) hj5
      obtain ⟨_, _, d2, d3, _⟩ := JB.c hj4
      obtain ⟨_, _, d4, d5, _⟩ := JB.c hj5
      have HJ6 := Lib.hid hj6
      have HC6 := Lib.hid hC6
      have HLT := Lib.hid hlt4
      clear hj4 hj5 hj6 hC6 hlt4
      try simp only [Act.put, List.setIfInBounds_toArray, List.set_cons_zero, List.set_cons_succ]
      refine tail_do (o := ⟨_, _, _, _, _, _⟩) rfl (fun K hK => ?_)
      go_simp
      refine hK.out _ _ ?_
      clear hK K
      try simp only [Act.put, List.setIfInBounds_toArray, List.set_cons_zero, List.set_cons_succ]
      refine tail_do (o := ⟨_, _, _, _, _, _⟩) rfl (fun K hK => ?_)
      go_simp
      refine hK.out _ _ ?_
      clear hK K
      try simp only [Act.put, List.setIfInBounds_toArray, List.set_cons_zero, List.set_cons_succ]
      rw [← hX1]
      clear hX1
      refine tail_do (o := ⟨_, _, _, _, _, _⟩) rfl (fun K hK => ?_)
      go_simp
      refine hK.out _ _ ?_
      clear hK K
      try simp only [Act.put, List.setIfInBounds_toArray, List.set_cons_zero, List.set_cons_succ]
      refine tail_do (o := ⟨_, _, _, _, _, _⟩) rfl (fun K hK => ?_)
      go_simp
      refine hK.out _ _ ?_
      clear hK K
      try simp only [Act.put, List.setIfInBounds_toArray, List.set_cons_zero, List.set_cons_succ]
      rw [← hX2]
      clear hX2 e1 e2 d2 d3 d4 d5
      simp only [inTail]
      have hjg : jb ≠ g' := by have := HG4.out; omega
      have hst6 : Stp Z X2 (.slice q L.length cq) L := Rw.keep (Rw.later HST.out HB4.out) HC6.out (fun k hk e => hz (e ▸ hk))
      have HOW := Lib.hid (owns_any _ L X2 hst6 (by omega))
      go_wp2_with fail
      refine HOW.out.mono ?_
      rintro e w7 ⟨⟨v7, rfl, h7⟩, hb7⟩
      have H7 := Lib.hid (And.intro h7 hb7)
      clear h7 hb7 HOW
      go_wp2_with fail
      go_ret2
      have hb7 := H7.out.2
      have h4 := HB4.out.size
      have h6 := HC6.out.size
      have h7 := hb7.size
      have hC : Chg (fun k => k = jb) w w7 := ((Chg.of_below HB4.out).trans HC6.out).trans (Chg.of_below hb7)
      refine ⟨⟨v7, rfl, H7.out.1.mono fun k hk => ⟨by omega, hk.2⟩⟩, ⟨_, _, HJ6.out.later hb7, ?_, ?_⟩, hC⟩
      · -- the groups that are left
        have hr := HROW.out.keep hC (fun k hk e => hz (e ▸ hk))
        have hxl : xs.length = G.length + 1 := by have := hr.1; omega
        refine ⟨xs.take G.length, ⟨by rw [List.length_take]; omega, ?_⟩, fun i M hM => ?_⟩
        · rcases hr.2 with ⟨h0, _⟩ | ⟨b', off', c', e, hc, hzz, k⟩
          · omega
          · cases e
            refine .inr ⟨b, off, G.length, rfl, Nat.le_refl _, .inl hzz, fun j x hj => k j x ?_⟩
            rw [List.getElem?_take] at hj
            split at hj
            · exact hj
            · cases hj
        · have hi := (List.getElem?_eq_some_iff.1 hM).1
          obtain ⟨y, hy, hsy⟩ := HEL.out i M (by rw [List.getElem?_append_left hi]; exact hM)
          exact ⟨y, by rw [List.getElem?_take, if_pos hi]; exact hy, (hsy.keep hC (fun k hk e => hz (e ▸ hk))).mono fun k hk => .inl hk⟩
      · have hlen : (H ++ [L]).length = H.length + 1 := by simp
        have hul : us.length = H.length := by have := HUR.out.1; omega
        have hr6 := ((Rw.of_own HO4.out (by decide)).block (Z' := fun k => k = g') rfl).keep HC6.out (fun k hk e => hjg (by omega))
        refine ⟨us ++ [.slice q L.length cq], by rw [hlen]; exact (Rw.later hr6 hb7).mono (fun k hk => .inr (by subst hk; exact ⟨HG4.out, by have := HLT.out; omega⟩)), fun i M hM => ?_⟩
        by_cases hi : i < H.length
        · rw [List.getElem?_append_left hi] at hM
          obtain ⟨y, hy, hsy⟩ := HUE.out i M hM
          exact ⟨y, by rw [List.getElem?_append_left (by omega)]; exact hy, (hsy.keep hC (fun k hk e => hz (e ▸ hk))).mono fun k hk => .inl hk⟩
        · have hlt := (List.getElem?_eq_some_iff.1 hM).1
          simp at hlt
          have e : i = H.length := by omega
          subst e
          simp at hM
          subst hM
          exact ⟨_, by rw [← hul]; simp, (Rw.later hst6 hb7).mono fun k hk => .inl hk⟩
end Go.Proofs.YticconhcphocbaaGreatDoor
