/- Note. -/
import Derived.Test.YticconhcphocbaaGreatDoorJ5
import Derived.Test.YticconhcphocbaaGreatDoorOrderT
import Derived.Deep.AppendLies
namespace Go.Proofs.YticconhcphocbaaGreatDoor
open Go.RowKit Go.Sort Go.Shelf

theorem ownsRow_lo {w : World} {B e size : Nat} {v : Value} {n b : Nat} {xs : List Value} (h : w.ownsRow B e size v n xs) (hb : v.ownBlock = some b) : B ≤ b ∧ b < w.heap.size := by
  rcases h.2 with ⟨rfl, rfl⟩ | ⟨g, cap, cur, rfl, hg, hk, _⟩
  · simp [Value.ownBlock] at hb
  · obtain rfl : g = b := by simpa [Value.ownBlock] using hb
    exact ⟨hg, lt_of_block hk⟩

theorem Rw.block {Z Z' : Nat → Prop} {w : World} {size n g off c : Nat} {xs : List Value} (h : Rw Z w size (.slice (some ⟨g, off, none⟩) n c) n xs) (hz : Z' g) : Rw Z' w size (.slice (some ⟨g, off, none⟩) n c) n xs := by
  refine ⟨h.1, h.2.imp id ?_⟩
  rintro ⟨b, off', c', e, hc, _, k⟩
  cases e
  exact ⟨g, off, c, rfl, hc, hz, k⟩

theorem sgE_one (id : Int) (h1 : 1 ≤ id) (h2 : id ≤ 1000) : sgE id 0 id 1 = 0 := by
  have e : inOk id = true := by unfold inOk; exact decide_eq_true (by omega)
  unfold sgE
  rw [e]
  have e0 : inOk 0 = true := by decide
  have e1 : inOk 1 = true := by decide
  rw [e0, e1]
  simp

set_option maxHeartbeats 4000000 in
set_option maxRecDepth 100000 in
theorem note_open {Z : Nat → Prop} (jb : Nat) (s d u : Value) (L : List (Bool × Int)) (pt : Bool) (id : Int) (w : World) (h : JB w jb s true d u true) (hs : Stp Z w s L) (h1 : 1 ≤ id) (h2 : id ≤ 1000) (hl : L.length < 128) :
    Calls Tryz.prog 10 #[.pointer (some ⟨jb, 0, none⟩), .agg #[.bool pt, Ii id, Ii 0, .bool true, Ii id, Ii 0, Ii id, Ii 1, .slice none 0 0]] w fun e w' => e = .returned (.int .i64 0) ∧ (∃ s', JB w' jb s' true d u true ∧ Stp (fun k => w.heap.size ≤ k ∧ k < w'.heap.size) w' s' (L ++ [(pt, id)])) ∧ Chg (fun k => k = jb) w w' := by
  obtain ⟨p0, cc0, rfl⟩ := Rw.slice hs
  obtain ⟨V, hV⟩ : ∃ V, V = w.alloc (.cells #[.bool pt, Ii id, Ii 0, .bool true, Ii id, Ii 0, Ii id, Ii 1, .slice none 0 0] 40) := ⟨_, rfl⟩
  have hb : Below w.heap.size w V := by rw [hV]; exact (Below.refl _ w).alloc (Nat.le_refl _) _
  obtain ⟨b0, hb0⟩ : ∃ b0, b0 = w.heap.size := ⟨_, rfl⟩
  have hk : V.heap[b0]? = some (.cells #[.bool pt, Ii id, Ii 0, .bool true, Ii id, Ii 0, Ii id, Ii 1, .slice none 0 0] 40 (0, 0)) := by rw [hV, hb0]; exact block_alloc_new w _
  have HB0 := Lib.hid hb0
  have HB := Lib.hid hb
  have HK := Lib.hid hk
  have HJ := Lib.hid (h.later hb)
  have HS := Lib.hid (Rw.later hs hb)
  have HN := Lib.hid (none_any jb _ d u true true V (h.later hb))
  have hjl := h.lt
  have HJL := Lib.hid hjl
  clear h hs hb hk hjl
  go_enter Tryz.func10, Tryz.ntmps10
  go_wp2_with fail
  refine wp_scope_forward 0 rfl ?_
  go_wp2_with fail
  rw [← hV, ← hb0]
  clear hV hb0
  refine HN.out.mono ?_
  rintro e w1 ⟨rfl, rfl⟩
  have c1 := cell_of (o := 1) (v := Ii id) HK.out rfl
  have c2 := cell_of (o := 2) (v := Ii 0) HK.out rfl
  have c3 := cell_of (o := 3) (v := .bool true) HK.out rfl
  have c4 := cell_of (o := 4) (v := Ii id) HK.out rfl
  have c5 := cell_of (o := 5) (v := Ii 0) HK.out rfl
  have c6 := cell_of (o := 6) (v := Ii id) HK.out rfl
  have c7 := cell_of (o := 7) (v := Ii 1) HK.out rfl
  have c8 := cell_of (o := 8) (v := .slice none 0 0) HK.out rfl
  have HC := Lib.hid (fun W => objCheck_any id 0 id 0 id 1 none 0 W h1 (by omega) (by omega) (by omega) (sgE_one id h1 h2))
  go_wp2_with fail
  refine (HC.out _).mono ?_
  rintro e w2 ⟨rfl, hb2⟩
  have HB2 := Lib.hid (HB.out.trans (hb2.mono HB.out.size))
  have HJ2 := Lib.hid (HJ.out.later hb2)
  have HK2 := Lib.hid ((hb2.block b0 (lt_of_block HK.out)).trans HK.out)
  have HS2 := Lib.hid (Rw.later HS.out hb2)
  clear c1 c2 c3 c4 c5 c6 c7 c8 hb2 HC HN HB HJ HK HS
  obtain ⟨j0, j1, _, _, _⟩ := HJ2.out.c
  have hl' : ¬ (128 ≤ (L.length : Int)) := by omega
  go_upto_region 9 with fail
  clear j0 j1 hl'
  obtain ⟨i0, hi0, hz0, hz1, hz2⟩ := info_parts Tryz.info40
  have HKP : Hid (∀ X, Below w2.heap.size w2 X → JB X jb (.slice p0 L.length cc0) true d u true ∧ X.heap[b0]? = some (.cells #[.bool pt, Ii id, Ii 0, .bool true, Ii id, Ii 0, Ii id, Ii 1, .slice none 0 0] 40 (0, 0))) := Lib.hid fun X hX => ⟨HJ2.out.later hX, (hX.block b0 (lt_of_block HK2.out)).trans HK2.out⟩
  refine wp_region_orderT (fun X => JB X jb (.slice p0 L.length cc0) true d u true ∧ X.heap[b0]? = some (.cells #[.bool pt, Ii id, Ii 0, .bool true, Ii id, Ii 0, Ii id, Ii 1, .slice none 0 0] 40 (0, 0))) [(true, 0), (true, 1), (true, 2), (true, 3), (true, 4), (true, 5), (true, 7), (false, 6), (false, 8), (false, 9), (false, 10)] [11, 12, 13, 14] (by kernel_rfl) (by kernel_rfl) (fun c a d v w h => by simp only [Exit.then] at h ⊢; cases d <;> exact h) (HKP.out _ (below_drewN (Below.refl _ _) 1)) ?_
  refine orderT_take (o := ⟨_, _, _, _, _, _⟩) (v := ?_) rfl (Or.inl ⟨by rfl, ?_⟩) ?_
  rotate_left
  · (rintro X ⟨z1, z2⟩; have z3 := (JB.c z1).1; go_simp; try with_reducible rfl)
  try simp only [Act.put, List.setIfInBounds_toArray, List.set_cons_zero, List.set_cons_succ]
  refine orderT_take (o := ⟨_, _, _, _, _, _⟩) (v := ?_) rfl (Or.inl ⟨by rfl, ?_⟩) ?_
  rotate_left
  · (rintro X ⟨z1, z2⟩; have z3 := (JB.c z1).1; go_simp; try with_reducible rfl)
  try simp only [Act.put, List.setIfInBounds_toArray, List.set_cons_zero, List.set_cons_succ]
  refine orderT_take (o := ⟨_, _, _, _, _, _⟩) (v := ?_) rfl (Or.inl ⟨by rfl, ?_⟩) ?_
  rotate_left
  · (rintro X ⟨z1, z2⟩; have z3 := (JB.c z1).1; go_simp; try with_reducible rfl)
  try simp only [Act.put, List.setIfInBounds_toArray, List.set_cons_zero, List.set_cons_succ]
  refine orderT_take (o := ⟨_, _, _, _, _, _⟩) (v := ?_) rfl (Or.inl ⟨by rfl, ?_⟩) ?_
  rotate_left
  · (rintro X ⟨z1, z2⟩; have z3 := (JB.c z1).1; go_simp; try with_reducible rfl)
  try simp only [Act.put, List.setIfInBounds_toArray, List.set_cons_zero, List.set_cons_succ]
  refine orderT_take (o := ⟨_, _, _, _, _, _⟩) (v := ?_) rfl (Or.inl ⟨by rfl, ?_⟩) ?_
  rotate_left
  · (rintro X ⟨z1, z2⟩; have z3 := (JB.c z1).1; go_simp; try with_reducible rfl)
  try simp only [Act.put, List.setIfInBounds_toArray, List.set_cons_zero, List.set_cons_succ]
  refine orderT_take (o := ⟨_, _, _, _, _, _⟩) (v := ?_) rfl (Or.inl ⟨by rfl, ?_⟩) ?_
  rotate_left
  · (rintro X ⟨z1, z2⟩; have z3 := (JB.c z1).1; go_simp; try with_reducible rfl)
  try simp only [Act.put, List.setIfInBounds_toArray, List.set_cons_zero, List.set_cons_succ]
  refine orderT_take (o := ⟨_, _, _, _, _, _⟩) (v := ?_) rfl (Or.inl ⟨by rfl, ?_⟩) ?_
  rotate_left
  · (rintro X ⟨z1, z2⟩; have d0 := cell_of (o := 0) (v := .bool pt) z2 rfl; have d1 := cell_of (o := 1) (v := Ii id) z2 rfl; have d2 := cell_of (o := 2) (v := Ii 0) z2 rfl; have d3 := cell_of (o := 3) (v := .bool true) z2 rfl; have d4 := cell_of (o := 4) (v := Ii id) z2 rfl; have d5 := cell_of (o := 5) (v := Ii 0) z2 rfl; have d6 := cell_of (o := 6) (v := Ii id) z2 rfl; have d7 := cell_of (o := 7) (v := Ii 1) z2 rfl; have d8 := cell_of (o := 8) (v := .slice none 0 0) z2 rfl; go_simp; try with_reducible rfl)
  try simp only [Act.put, List.setIfInBounds_toArray, List.set_cons_zero, List.set_cons_succ]
  obtain ⟨W0, hW0⟩ : ∃ W, W = w2.drew := ⟨_, rfl⟩
  have hb20 : Below w2.heap.size w2 W0 := by rw [hW0]; exact below_drewN (Below.refl _ _) 1
  rw [← hW0]
  clear hW0
  have HB20 := Lib.hid hb20
  clear hb20
  have HCL := Lib.hid (cl29_any (.slice p0 L.length cc0) L.length (svs L) W0 (Rw.later HS2.out HB20.out) (by omega) (svs_one L))
  refine orderT_do (o := ⟨_, _, _, _, _, _⟩) rfl (fun K hK => ?_)
  go_simp
  refine HCL.out.mono ?_
  rintro e W1 ⟨v1, rfl, ho1, hb1⟩
  have HO1 := Lib.hid ho1
  have HB21 := Lib.hid (HB20.out.trans (hb1.mono HB20.out.size))
  refine hK.out _ _ (HKP.out _ HB21.out) (fun _ => ?_)
  clear hK K hb1 ho1 HCL
  try simp only [Act.put, List.setIfInBounds_toArray, List.set_cons_zero, List.set_cons_succ]
  refine orderT_do (o := ⟨_, _, _, _, _, _⟩) rfl (fun K hK => ?_)
  go_simp
  refine (show Calls Tryz.prog 30 #[.agg #[.bool pt, Ii id, Ii 0, .bool true, Ii id, Ii 0, Ii id, Ii 1, .slice none 0 0]] W1 fun e w' => e = .returned (.agg #[.bool pt, Ii id, Ii 0, .bool true, Ii id, Ii 0, Ii id, Ii 1, .slice none 0 0]) ∧ Below W1.heap.size W1 w' from own_any (pt, id) W1).mono ?_
  rintro e W2 ⟨rfl, hb2⟩
  have HB12 := Lib.hid hb2
  have HB22 := Lib.hid (HB21.out.trans (hb2.mono HB21.out.size))
  refine hK.out _ _ (HKP.out _ HB22.out) (fun _ => ?_)
  clear hK K hb2
  try simp only [Act.put, List.setIfInBounds_toArray, List.set_cons_zero, List.set_cons_succ]
  refine orderT_do (o := ⟨_, _, _, _, _, _⟩) rfl (fun K hK => ?_)
  go_simp
  obtain ⟨W3, hW3⟩ : ∃ W, W = W2.alloc (.cells #[.bool pt, Ii id, Ii 0, .bool true, Ii id, Ii 0, Ii id, Ii 1, .slice none 0 0] 40) := ⟨_, rfl⟩
  have hb23 : Below W2.heap.size W2 W3 := by rw [hW3]; exact (Below.refl _ _).alloc (Nat.le_refl _) _
  rw [← hW3]
  have hnw : ∀ j u, ([.bool pt, Ii id, Ii 0, .bool true, Ii id, Ii 0, Ii id, Ii 1, .slice none 0 0] : List Value)[j]? = some u → W3.cell? ((⟨W2.heap.size, 0, none⟩ : Addr).add j) = some u := by rw [hW3]; exact cells_new W2 [.bool pt, Ii id, Ii 0, .bool true, Ii id, Ii 0, Ii id, Ii 1, .slice none 0 0] 40
  have ho3 := ownsRow_rebase (base' := 0) (ownsRow_below HO1.out (HB12.out.trans (hb23.mono HB12.out.size))) (fun _ _ => Nat.zero_le _)
  have HB23 := Lib.hid (HB22.out.trans (hb23.mono HB22.out.size))
  have HNW := Lib.hid hnw
  have HB22S := Lib.hid HB23.out.size
  have HO3 := Lib.hid ho3
  have HV1 := Lib.hid (show ∀ b, v1.ownBlock = some b → w2.heap.size ≤ b from fun b hb => Nat.le_trans HB20.out.size (ownsRow_lo HO1.out hb).1)
  refine hK.out _ _ (HKP.out _ HB23.out) (fun _ => ?_)
  clear hK K hb23 hnw ho3 hW3 HB22 HB12 HO1 HB21 HB20
  try simp only [Act.put, List.setIfInBounds_toArray, List.set_cons_zero, List.set_cons_succ]
  refine orderT_do (o := ⟨_, _, _, _, _, _⟩) rfl (fun K hK => ?_)
  refine step_append_lies W3 rfl _ _ 46 rfl 0 40 i0 _ 9 88 Tryz.underlying46 hi0 hz0 hz1 hz2 rfl (by decide) _ L.length (svs L) rfl HO3.out ⟨W2.heap.size, 0, none⟩ 1 1 [.bool pt, Ii id, Ii 0, .bool true, Ii id, Ii 0, Ii id, Ii 1, .slice none 0 0] rfl rfl HNW.out ?ea (by decide) ?eb ?ec (Nat.zero_le _) _ rfl ?ed
  case ea => exact svs_one [(pt, id)]
  case eb => unfold maxLen; omega
  case ec => omega
  case ed =>
    intro g' cap' w4 ho hgr hor hlt2
    have hb24 : Below w2.heap.size w2 w4 := HB23.out.grown hgr HB23.out.size (fun k hk => HV1.out k hk)
    have HB24 := Lib.hid hb24
    have HO4 := Lib.hid ho
    have HG4 := Lib.hid (show w2.heap.size ≤ g' by
      rcases hor with e | e
      · exact HV1.out g' e
      · rw [e]; exact Nat.le_trans HB22S.out (Nat.le_refl _))
    refine hK.out _ _ (HKP.out _ hb24) (fun _ => ?_)
    clear hK K hb24 ho hgr hor HNW HO3 HV1 HB23
    have hj4 := HJ2.out.later HB24.out
    have HJ4 := Lib.hid hj4
    obtain ⟨j0, _, _, _, _⟩ := hj4.c
    have jf := hj4.f (o := 0)
    clear hj4
    try simp only [Act.put, List.setIfInBounds_toArray, List.set_cons_zero, List.set_cons_succ]
    refine tail_do (o := ⟨_, _, _, _, _, _⟩) rfl (fun K hK => ?_)
    go_simp
    refine hK.out _ _ ?_
    clear hK K
    try simp only [Act.put, List.setIfInBounds_toArray, List.set_cons_zero, List.set_cons_succ]
    refine tail_do (o := ⟨_, _, _, _, _, _⟩) rfl (fun K hK => ?_)
    go_simp
    refine hK.out _ _ ?_
    clear hK K
    try simp only [Act.put, List.setIfInBounds_toArray, List.set_cons_zero, List.set_cons_succ]
    refine tail_do (o := ⟨_, _, _, _, _, _⟩) rfl (fun K hK => ?_)
    go_simp
    refine hK.out _ _ ?_
    clear hK K
    try simp only [Act.put, List.setIfInBounds_toArray, List.set_cons_zero, List.set_cons_succ]
    refine tail_do (o := ⟨_, _, _, _, _, _⟩) rfl (fun K hK => ?_)
    go_simp
    refine hK.out _ _ ?_
    clear hK K
    try simp only [Act.put, List.setIfInBounds_toArray, List.set_cons_zero, List.set_cons_succ]
    have hst : Rw (fun k => w2.heap.size ≤ k ∧ k < w4.heap.size) w4 9 (.slice (some ⟨g', 0, none⟩) (L.length + 1) cap') (L.length + 1) (svs (L ++ [(pt, id)])) := by
      rw [svs_append]
      exact (Rw.of_own HO4.out (by decide)).block ⟨HG4.out, hlt2⟩
    have hCs : Chg (fun k => k = jb) w4 (w4.setCell ⟨jb, 0, none⟩ (.slice (some ⟨g', 0, none⟩) (L.length + 1) cap')) := (Chg.refl (fun k => k = jb) w4).setCell (p := ⟨jb, 0, none⟩) (fun _ => rfl) _
    have hj5 : JB (w4.setCell ⟨jb, 0, none⟩ (.slice (some ⟨g', 0, none⟩) (L.length + 1) cap')) jb (.slice (some ⟨g', 0, none⟩) (L.length + 1) cap') true d u true := HJ4.out.set 0 _
    have hst5 := hst.keep hCs (fun k hk e => by have := HJL.out; have := HB2.out.size; omega)
    have hC : Chg (fun k => k = jb) w (w4.setCell ⟨jb, 0, none⟩ (.slice (some ⟨g', 0, none⟩) (L.length + 1) cap')) := (Chg.of_below (S := fun k => k = jb) (HB2.out.trans (HB24.out.mono HB2.out.size))).setCell (p := ⟨jb, 0, none⟩) (fun _ => rfl) _
    have HF := Lib.hid (And.intro hj5 (And.intro hst5 hC))
    clear hst hCs hj5 hst5 hC j0 jf HO4 HG4 HJ4
    simp only [inTail]
    go_wp2
    rw [jump_ret]
    go_ret
    obtain ⟨f1, f2, f3⟩ := HF.out
    refine ⟨rfl, ⟨_, f1, ?_⟩, f3⟩
    have := HB2.out.size
    have e : (L ++ [(pt, id)]).length = L.length + 1 := by simp
    unfold Stp
    rw [e]
    exact f2.mono fun k hk => ⟨by omega, by simpa using hk.2⟩
end Go.Proofs.YticconhcphocbaaGreatDoor
