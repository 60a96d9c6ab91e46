/- End. -/
import Derived.Test.YticconhcphocbaaGreatDoorJ8
namespace Go.Proofs.YticconhcphocbaaGreatDoor
open Go.RowKit Go.Sort Go.Shelf

theorem Stp.one {Z : Nat → Prop} {w : World} {s : Value} {L : List (Bool × Int)} (h : Stp Z w s L) : s.oneCell' = true := Rw.one h
theorem Grp.ones {Z : Nat → Prop} {w : World} {xs : List Value} {G : List (List (Bool × Int))} (hl : xs.length = G.length) (h : ∀ (i : Nat) L, G[i]? = some L → ∃ v, xs[i]? = some v ∧ Stp Z w v L) : ∀ u ∈ xs, u.oneCell' = true := by
  intro u hu
  obtain ⟨i, hi, rfl⟩ := List.mem_iff_getElem.1 hu
  obtain ⟨v, hv, hs⟩ := h i G[i] (List.getElem?_eq_getElem (by omega))
  rw [List.getElem?_eq_getElem hi] at hv
  cases hv
  exact hs.one

theorem ownsRow_pos {w : World} {B e size n : Nat} {v : Value} {xs : List Value} (h : w.ownsRow B e size v n xs) (hn : 0 < n) (hs : 0 < size) : ∃ g cap, v = .slice (some ⟨g, 0, none⟩) n cap := by
  rcases h.2 with ⟨rfl, hx⟩ | ⟨g, cap, cur, rfl, _⟩
  · have := h.1
    rw [hx] at this
    have := Nat.mul_pos hn hs
    simp at *; omega
  · exact ⟨g, cap, rfl⟩
theorem JB.done2 {w : World} {jb : Nat} {s d u : Value} {op th : Bool} (h : JB w jb s op d u th) (d' u' : Value) : JB ((w.setCell ⟨jb, 2, none⟩ d').setCell ⟨jb, 3, none⟩ u') jb s op d' u' th := by
  have h1 := block_setCell (b := jb) (o := 2) d' h
  have h2 := block_setCell (b := jb) (o := 3) u' h1
  exact h2

theorem Rw.drop {Z : Nat → Prop} {w : World} {g n c : Nat} {xs : List Value} (h : Rw Z w 1 (.slice (some ⟨g, 0, none⟩) n c) n xs) (q : Nat) (hq : q < n) : Rw Z w 1 (.slice (some ⟨g, q, none⟩) (n - q) (c - q)) (n - q) (xs.drop q) := by
  have hl := h.1
  refine ⟨by rw [List.length_drop]; omega, ?_⟩
  rcases h.2 with ⟨rfl, _⟩ | ⟨b, off, c', e, hc, hz, k⟩
  · omega
  · cases e
    refine .inr ⟨g, q, c - q, rfl, by omega, hz, fun j u hj => ?_⟩
    rw [List.getElem?_drop] at hj
    have := k _ _ hj
    rw [Nat.zero_add] at this
    exact this

theorem end_shut (jb : Nat) (s d u : Value) (w : World) (h : JB w jb s false d u true) : Calls Tryz.prog 12 #[.pointer (some ⟨jb, 0, none⟩)] w fun e w' => e = .returned (.int .i64 341) ∧ w = w' := by
  have HN := Lib.hid (shut_shut jb s d u w h)
  clear h
  go_enter Tryz.func12, Tryz.ntmps12
  go_wp2_with fail
  refine HN.out.mono ?_
  rintro e w1 ⟨rfl, rfl⟩
  go_wp2
  go_ret
  exact ⟨rfl, rfl⟩

set_option maxHeartbeats 4000000 in
set_option maxRecDepth 100000 in
theorem end_open {Z : Nat → Prop} (jb : Nat) (s d u : Value) (L : List (Bool × Int)) (G : List (List (Bool × Int))) (w : World) (h : JB w jb s true d u true) (hs : Stp Z w s L) (hg : Grp Z w d G) (hz : ¬ Z jb) (hL : L ≠ []) (hG : G.length ≤ 64) :
    Calls Tryz.prog 12 #[.pointer (some ⟨jb, 0, none⟩)] w fun e w' => e = .returned (.int .i64 0) ∧ (∃ d', JB w' jb (.slice none 0 0) false d' (.slice none 0 0) true ∧ Grp (fun k => Z k ∨ (w.heap.size ≤ k ∧ k < w'.heap.size)) w' d' ((G ++ [L]).drop (G.length + 1 - 64))) ∧ Chg (fun k => k = jb) w w' := by
  have hjl := h.lt
  have HSH := Lib.hid (shut_open jb s d u w h)
  obtain ⟨p0, c0, rfl⟩ := Rw.slice hs
  have HS := Lib.hid hs
  have HG := Lib.hid hg
  clear h hs hg
  have hn0 : 0 < L.length := by cases L with | nil => exact absurd rfl hL | cons => simp
  have hn1 : ¬ (L.length = 0) := by omega
  go_enter Tryz.func12, Tryz.ntmps12
  go_wp2_with fail
  refine HSH.out.mono ?_
  rintro e w1 ⟨rfl, hj1, hc1⟩
  have HJ1 := Lib.hid hj1
  have HC1 := Lib.hid hc1
  obtain ⟨q0, q1, q2, q3, q4⟩ := hj1.c
  clear hj1 hc1
  go_wp2_with fail
  obtain ⟨xs, hrow, hel⟩ := HG.out
  have hones := Grp.ones (by have := hrow.1; omega) hel
  have hrow1 := hrow.keep HC1.out (fun k hk e => hz (e ▸ hk))
  have HCL := Lib.hid (cl32_any d G.length xs w1 hrow1 (by omega) hones)
  refine HCL.out.mono ?_
  rintro e w2 ⟨v1, rfl, ho1, hb2⟩
  have HO1 := Lib.hid ho1
  have HB2 := Lib.hid hb2
  have HEL := Lib.hid hel
  have HXL := Lib.hid hrow.1
  have HJ2 := Lib.hid (HJ1.out.later hb2)
  clear q0 q1 q2 q3 q4 hrow hel hones hrow1 HCL ho1 hb2
  obtain ⟨q0, q1, q2, q3, q4⟩ := HJ2.out.c
  have e2 := HJ2.out.f (o := 2)
  obtain ⟨i0, hi0, hz0, hz1, hz2⟩ := info_parts Tryz.info46
  obtain ⟨W3, hW3⟩ : ∃ W, W = w2.alloc (.cells #[.slice p0 L.length c0] 46) := ⟨_, rfl⟩
  have hb23 : Below w2.heap.size w2 W3 := by rw [hW3]; exact (Below.refl _ _).alloc (Nat.le_refl _) _
  have hnw : ∀ j u, ([.slice p0 L.length c0] : List Value)[j]? = some u → W3.cell? ((⟨w2.heap.size, 0, none⟩ : Addr).add j) = some u := by rw [hW3]; exact cells_new w2 [.slice p0 L.length c0] 46
  have ho3 := ownsRow_rebase (base' := 0) (ownsRow_below HO1.out hb23) (fun _ _ => Nat.zero_le _)
  go_wp2_with (first | rw [← hW3] | (at_builtin; refine wpList_append_or W3 rfl _ _ 52 rfl 46 i0 _ 1 24 Tryz.underlying52 hi0 hz0 hz1 hz2 rfl (by decide) _ G.length xs rfl ho3 ⟨w2.heap.size, 0, none⟩ 1 1 [.slice p0 L.length c0] rfl rfl hnw ?ea ?eb ?ec (by decide) ?ed))
  case ea => intro x hx; simp at hx; subst hx; rfl
  case eb => unfold maxLen; omega
  case ec => omega
  case ed =>
    intro v4 w4 ho4 hgr4 hor
    obtain ⟨g, cap, rfl⟩ := ownsRow_pos ho4 (by omega) (by decide)
    have h12 := HB2.out.size
    have hv1 : ∀ b, v1.ownBlock = some b → w1.heap.size ≤ b := fun b hb => (ownsRow_lo HO1.out hb).1
    have hb13 : Below w1.heap.size w1 W3 := HB2.out.trans (hb23.mono h12)
    have hb14 : Below w1.heap.size w1 w4 := hb13.grown hgr4 hb13.size (fun k hk => hv1 k hk)
    have hg1 : w1.heap.size ≤ g := by
      rcases hor with e | e
      · exact hv1 g e.symm
      · have := e g rfl; omega
    have hg2 : g < w4.heap.size := (ownsRow_lo ho4 rfl).2
    have hj4 := HJ1.out.later hb14
    have hr4 := (Rw.of_own ho4 (by decide)).block (Z' := fun k => k = g) rfl
    obtain ⟨X, hX⟩ : ∃ X, X = (w4.setCell ⟨jb, 2, none⟩ (.slice (some ⟨g, 0, none⟩) (G.length + 1) cap)).setCell ⟨jb, 3, none⟩ (.slice none 0 0) := ⟨_, rfl⟩
    have hjX : JB X jb (.slice none 0 0) false (.slice (some ⟨g, 0, none⟩) (G.length + 1) cap) (.slice none 0 0) true := by rw [hX]; exact hj4.done2 _ _
    have hCX : Chg (fun k => k = jb) w4 X := by
      rw [hX]
      exact ((Chg.refl (fun k => k = jb) w4).setCell (p := ⟨jb, 2, none⟩) (fun _ => rfl) _).setCell (p := ⟨jb, 3, none⟩) (fun _ => rfl) _
    have hjg : jb ≠ g := by have := HC1.out.size; omega
    have hrX := hr4.keep hCX (fun k hk e => hjg (by omega))
    have HB14 := Lib.hid hb14
    have HG1 := Lib.hid hg1
    have HG2 := Lib.hid hg2
    have HJX := Lib.hid hjX
    have HCX := Lib.hid hCX
    have HRX := Lib.hid hrX
    have e4 := hj4.f (o := 2)
    have e5 : (w4.setCell ⟨jb, 2, none⟩ (.slice (some ⟨g, 0, none⟩) (G.length + 1) cap)).frozen? ⟨jb, 3, none⟩ = false := free_of (block_setCell (b := jb) (o := 2) _ hj4)
    have e6 : (w4.setCell ⟨jb, 2, none⟩ (.slice (some ⟨g, 0, none⟩) (G.length + 1) cap)).cell? ⟨jb, 3, none⟩ = some u := cell_of (block_setCell (b := jb) (o := 2) _ hj4) rfl
    obtain ⟨_, _, e7, _, _⟩ := hj4.c
    clear hb14 hg1 hg2 hjX hCX hrX hj4 hr4 hv1 hb13 ho4 hgr4 hor q0 q1 q2 q3 q4 e2 hnw ho3 hb23 hW3 HJ2 HO1 HB2
    go_upto_region 5 with fail
    rw [← hX]
    clear hX e4 e5 e6 e7
    obtain ⟨q, hq⟩ : ∃ q, q = G.length + 1 - 64 := ⟨_, rfl⟩
    have HQ := Lib.hid hq
    have hcq : G.length + 1 ≤ cap := by
      rcases HRX.out.2 with ⟨h0, _⟩ | ⟨_, _, _, e, hc, _⟩
      · omega
      · cases e; exact hc
    have HCQ := Lib.hid (show ¬ (cap = q) by omega)
    clear hcq
    have HMX := Lib.hid (show max 0 (IntKind.i64.wrap ((G.length : Int) + 1 - 64)) = (q : Int) by rw [IntKind.wrap_i64, hq]; omega)
    have hq1 : (q : Int) ≤ G.length + 1 := by omega
    clear hq
    refine wp_region_orderT (fun X => JB X jb (.slice none 0 0) false (.slice (some ⟨g, 0, none⟩) (G.length + 1) cap) (.slice none 0 0) true) [(true, 0), (true, 1), (true, 2), (true, 3), (true, 4), (true, 5), (true, 6), (true, 7), (true, 8), (true, 9), (true, 10), (true, 11), (true, 12)] [13, 14, 15] (by kernel_rfl) (by kernel_rfl) (fun c a d v w h => by simp only [Exit.then] at h ⊢; cases d <;> exact h) (HJX.out.later (below_drewN (Below.refl _ _) 1)) ?_
    refine orderT_take (o := ⟨_, _, _, _, _, _⟩) (v := ?_) rfl (Or.inl ⟨by rfl, ?_⟩) ?_
    rotate_left
    · (rintro X z1; have z3 := (JB.c z1).2.2.1; go_simp; try with_reducible rfl)
    try simp only [Act.put, List.setIfInBounds_toArray, List.set_cons_zero, List.set_cons_succ]
    refine orderT_take (o := ⟨_, _, _, _, _, _⟩) (v := ?_) rfl (Or.inl ⟨by rfl, ?_⟩) ?_
    rotate_left
    · (rintro X z1; have z3 := (JB.c z1).2.2.1; go_simp; try with_reducible rfl)
    try simp only [Act.put, List.setIfInBounds_toArray, List.set_cons_zero, List.set_cons_succ]
    refine orderT_take (o := ⟨_, _, _, _, _, _⟩) (v := ?_) rfl (Or.inl ⟨by rfl, ?_⟩) ?_
    rotate_left
    · (rintro X z1; have z3 := (JB.c z1).2.2.1; go_simp; try with_reducible rfl)
    try simp only [Act.put, List.setIfInBounds_toArray, List.set_cons_zero, List.set_cons_succ]
    refine orderT_take (o := ⟨_, _, _, _, _, _⟩) (v := ?_) rfl (Or.inl ⟨by rfl, ?_⟩) ?_
    rotate_left
    · (rintro X z1; have z3 := (JB.c z1).2.2.1; go_simp; try with_reducible rfl)
    try simp only [Act.put, List.setIfInBounds_toArray, List.set_cons_zero, List.set_cons_succ]
    refine orderT_take (o := ⟨_, _, _, _, _, _⟩) (v := ?_) rfl (Or.inl ⟨by rfl, ?_⟩) ?_
    rotate_left
    · (rintro X z1; have z3 := (JB.c z1).2.2.1; go_simp; try with_reducible rfl)
    try simp only [Act.put, List.setIfInBounds_toArray, List.set_cons_zero, List.set_cons_succ]
    refine orderT_take (o := ⟨_, _, _, _, _, _⟩) (v := ?_) rfl (Or.inl ⟨by rfl, ?_⟩) ?_
    rotate_left
    · (rintro X z1; have z3 := (JB.c z1).2.2.1; go_simp; try with_reducible rfl)
    try simp only [Act.put, List.setIfInBounds_toArray, List.set_cons_zero, List.set_cons_succ]
    refine orderT_take (o := ⟨_, _, _, _, _, _⟩) (v := ?_) rfl (Or.inl ⟨by rfl, ?_⟩) ?_
    rotate_left
    · (rintro X z1; have z3 := (JB.c z1).2.2.1; go_simp; try with_reducible rfl)
    try simp only [Act.put, List.setIfInBounds_toArray, List.set_cons_zero, List.set_cons_succ]
    refine orderT_take (o := ⟨_, _, _, _, _, _⟩) (v := ?_) rfl (Or.inl ⟨by rfl, ?_⟩) ?_
    rotate_left
    · (rintro X z1; have z3 := (JB.c z1).2.2.1; go_simp; try with_reducible rfl)
    try simp only [Act.put, List.setIfInBounds_toArray, List.set_cons_zero, List.set_cons_succ]
    refine orderT_take (o := ⟨_, _, _, _, _, _⟩) (v := ?_) rfl (Or.inl ⟨by rfl, ?_⟩) ?_
    rotate_left
    · (rintro X z1; have z3 := (JB.c z1).2.2.1; go_simp; try with_reducible rfl)
    try simp only [Act.put, List.setIfInBounds_toArray, List.set_cons_zero, List.set_cons_succ]
    refine orderT_take (o := ⟨_, _, _, _, _, _⟩) (v := ?_) rfl (Or.inl ⟨by rfl, ?_⟩) ?_
    rotate_left
    · (rintro X z1; have z3 := (JB.c z1).2.2.1; go_simp; try with_reducible rfl)
    try simp only [Act.put, List.setIfInBounds_toArray, List.set_cons_zero, List.set_cons_succ]
    refine orderT_take (o := ⟨_, _, _, _, _, _⟩) (v := ?_) rfl (Or.inl ⟨by rfl, ?_⟩) ?_
    rotate_left
    · (rintro X z1; have z3 := (JB.c z1).2.2.1; go_simp; try with_reducible rfl)
    try simp only [Act.put, List.setIfInBounds_toArray, List.set_cons_zero, List.set_cons_succ]
    refine orderT_take (o := ⟨_, _, _, _, _, _⟩) (v := .int .i64 (q : Int)) rfl (Or.inl ⟨by rfl, ?_⟩) ?_
    · (rintro X z1; go_simp; exact HMX.out)
    try simp only [Act.put, List.setIfInBounds_toArray, List.set_cons_zero, List.set_cons_succ]
    refine orderT_take (o := ⟨_, _, _, _, _, _⟩) (v := .slice (some ⟨g, q, none⟩) (G.length + 1 - q) (cap - q)) rfl (Or.inl ⟨by rfl, ?_⟩) ?_
    · (rintro X z1; go_simp; exact fun h => absurd h HCQ.out)
    try simp only [Act.put, List.setIfInBounds_toArray, List.set_cons_zero, List.set_cons_succ]
    obtain ⟨X0, hX0⟩ : ∃ Z, Z = X.drew := ⟨_, rfl⟩
    have hc0 : Chg (fun k => k = jb) X X0 := by rw [hX0]; exact (Chg.refl (fun k => k = jb) X).drew
    have hjd : JB X0 jb (.slice none 0 0) false (.slice (some ⟨g, 0, none⟩) (G.length + 1) cap) (.slice none 0 0) true := by rw [hX0]; exact HJX.out.later (below_drewN (Below.refl _ _) 1)
    rw [← hX0]
    clear hX0
    have e2 := JB.f (o := 2) hjd
    obtain ⟨_, _, e3, _, _⟩ := JB.c hjd
    obtain ⟨Y, hY⟩ : ∃ Y, Y = X0.setCell ⟨jb, 2, none⟩ (.slice (some ⟨g, q, none⟩) (G.length + 1 - q) (cap - q)) := ⟨_, rfl⟩
    have hCY : Chg (fun k => k = jb) X Y := by rw [hY]; exact hc0.setCell (p := ⟨jb, 2, none⟩) (fun _ => rfl) _
    have hjY : JB Y jb (.slice none 0 0) false (.slice (some ⟨g, q, none⟩) (G.length + 1 - q) (cap - q)) (.slice none 0 0) true := by rw [hY]; exact JB.set hjd 2 _
    have HCY := Lib.hid hCY
    have HJY := Lib.hid hjY
    have HRY := Lib.hid (HRX.out.keep hCY (fun k hk e => hjg (by omega)))
    clear hjd hc0 hCY hjY HRX HMX HCQ
    refine tail_do (o := ⟨_, _, _, _, _, _⟩) rfl (fun K hK => ?_)
    go_simp
    refine hK.out _ _ ?_
    clear hK K
    try simp only [Act.put, List.setIfInBounds_toArray, List.set_cons_zero, List.set_cons_succ]
    refine tail_do (o := ⟨_, _, _, _, _, _⟩) rfl (fun K hK => ?_)
    go_simp
    refine hK.out _ _ ?_
    clear hK K
    try simp only [Act.put, List.setIfInBounds_toArray, List.set_cons_zero, List.set_cons_succ]
    refine tail_do (o := ⟨_, _, _, _, _, _⟩) rfl (fun K hK => ?_)
    go_simp
    refine hK.out _ _ ?_
    clear hK K
    try simp only [Act.put, List.setIfInBounds_toArray, List.set_cons_zero, List.set_cons_succ]
    rw [← hY]
    simp only [inTail]
    clear hY e2 e3
    go_wp2
    go_ret
    have h14 := HB14.out.size
    have h1 := HC1.out.size
    have h4 := HCX.out.size
    have h5 := HCY.out.size
    have hC : Chg (fun k => k = jb) w Y := ((HC1.out.trans (Chg.of_below HB14.out)).trans HCX.out).trans HCY.out
    refine ⟨rfl, ⟨_, HJY.out, ?_⟩, hC⟩
    rw [← HQ.out]
    have hq3 := HQ.out
    have hlen : ((G ++ [L]).drop q).length = G.length + 1 - q := by simp
    have hxl := HXL.out
    rw [Nat.mul_one] at hxl
    have hG1 := HG1.out
    have hG2 := HG2.out
    refine ⟨_, by rw [hlen]; exact (HRY.out.drop q (by omega)).mono (fun k hk => .inr (by subst hk; exact ⟨by omega, by omega⟩)), fun i M hM => ?_⟩
    rw [List.getElem?_drop] at hM ⊢
    by_cases hi : q + i < G.length
    · rw [List.getElem?_append_left hi] at hM
      obtain ⟨v, hv, hsv⟩ := HEL.out _ _ hM
      refine ⟨v, by rw [List.getElem?_append_left (by omega)]; exact hv, (hsv.keep hC (fun k hk e => hz (e ▸ hk))).mono fun k hk => .inl hk⟩
    · have hlt := (List.getElem?_eq_some_iff.1 hM).1
      simp at hlt
      have e : q + i = G.length := by omega
      rw [e] at hM ⊢
      simp at hM
      subst hM
      refine ⟨.slice p0 L.length c0, by rw [← hxl]; simp, (HS.out.keep hC (fun k hk e => hz (e ▸ hk))).mono fun k hk => .inl hk⟩
end Go.Proofs.YticconhcphocbaaGreatDoor
