/- Steps turned round. -/
import Derived.Test.YticconhcphocbaaGreatDoorJ10
import Derived.Test.YticconhcphocbaaGreatDoorOrderR
namespace Go.Proofs.YticconhcphocbaaGreatDoor
open Go.RowKit Go.Sort Go.Shelf

attribute [local go_sem] Oper.semAt_some

def invS (x : Bool × Int) : Bool × Int := (!x.1, x.2)
/-- A box that holds an own row. -/
def OwnBox (W : World) (ob : Nat) (t : TypeId) (B : Nat) (e : TypeId) (size n : Nat) (xs : List Value) : Prop := ∃ v, Boxed W ob t v ∧ W.ownsRow B e size v n xs
theorem OwnBox.cellsKeep {W W' : World} {ob B size n : Nat} {t e : TypeId} {xs : List Value} (h : OwnBox W ob t B e size n xs) (keep : ∀ (k : Nat) (cs : Array Value) (t : TypeId) (fr : Nat × Nat), W.heap[k]? = some (Obj.cells cs t fr) → W'.heap[k]? = some (Obj.cells cs t fr)) : OwnBox W' ob t B e size n xs := by
  obtain ⟨v, hb, ho⟩ := h
  refine ⟨v, keep _ _ _ _ hb, ho.1, ho.2.imp id ?_⟩
  rintro ⟨g, cap, cur, e1, e2, e3, r⟩
  exact ⟨g, cap, cur, e1, e2, keep _ _ _ _ e3, r⟩
theorem ownBox_own {β : Type} (ob : Nat) (t : TypeId) (B : Nat) (e : TypeId) (size : Nat) (n : β → Nat) (xs : β → List Value) : Own (fun s W => OwnBox W ob t B e size (n s) (xs s)) := by
  intro s W W' row h hg hr
  refine h.cellsKeep fun k cs t fr hk => (hg.block k (lt_of_block hk) ?_).trans hk
  intro e
  obtain ⟨o, ho, hc⟩ := hr k e.symm
  rw [hk] at ho; cases ho; cases hc

theorem backs_map (L : List (Bool × Int)) : (backs L).map (fun x => invS x.2) = L.reverse.map invS := by
  unfold backs
  rw [List.map_map]
  have : ((fun x : Nat × (Bool × Int) => invS x.2) ∘ fun x : (Bool × Int) × Nat => (x.2, x.1)) = invS ∘ Prod.fst := rfl
  rw [this, ← List.map_map, List.map_reverse, List.zipIdx_map_fst]
theorem ownsRow_cells {w : World} {B e size : Nat} {v : Value} {n b : Nat} {xs : List Value} (h : w.ownsRow B e size v n xs) (hb : v.ownBlock = some b) : ∃ cur, w.heap[b]? = some (.cells cur e (0, 0)) := by
  rcases h.2 with ⟨rfl, rfl⟩ | ⟨g, cap, cur, rfl, hg, hk, _⟩
  · simp [Value.ownBlock] at hb
  · obtain rfl : g = b := by simpa [Value.ownBlock] using hb
    exact ⟨_, hk⟩
theorem ownsRow_setCell {w : World} {B e size : Nat} {v : Value} {n : Nat} {xs : List Value} (h : w.ownsRow B e size v n xs) {p : Addr} (hp : p.block < B) (u : Value) : (w.setCell p u).ownsRow B e size v n xs := by
  refine ⟨h.1, h.2.imp id ?_⟩
  rintro ⟨g, cap, cur, e1, e2, e3, r⟩
  exact ⟨g, cap, cur, e1, e2, (block_setCell_other u (by omega)).trans e3, r⟩

set_option maxHeartbeats 4000000 in
set_option maxRecDepth 100000 in
theorem turned_in {Z : Nat → Prop} (s : Value) (L : List (Bool × Int)) (w : World) (hs : Stp Z w s L) (hz : ∀ k, Z k → k < w.heap.size) (hL : L.length ≤ 1000) :
    CallsIn Fence.wide 6 Tryz.prog 58 #[s, .func (.func 59) #[] #[]] w fun e w' => (∃ v, e = .returned v ∧ Stp (fun k => w.heap.size ≤ k ∧ k < w'.heap.size) w' v (L.reverse.map invS)) ∧ Below w.heap.size w w' := by
  obtain ⟨p, cap, rfl⟩ := Rw.slice hs
  obtain ⟨b0, hb0⟩ : ∃ b0, b0 = w.heap.size := ⟨_, rfl⟩
  obtain ⟨V, hV⟩ : ∃ V, V = (w.alloc (.cells #[.func (.func 59) #[] #[]] 72)).alloc (.cells #[.slice none 0 0] 46) := ⟨_, rfl⟩
  have hb : Below w.heap.size w V := by rw [hV]; exact ((Below.refl _ w).alloc (Nat.le_refl _) _).alloc (by rw [World.size_alloc]; omega) _
  have hk : V.heap[b0]? = some (.cells #[.func (.func 59) #[] #[]] 72 (0, 0)) := by rw [hV, hb0]; exact block_alloc_old _ (block_alloc_new w _)
  have hk1 : V.heap[b0 + 1]? = some (.cells #[.slice none 0 0] 46 (0, 0)) := by
    have := block_alloc_new (w.alloc (.cells #[.func (.func 59) #[] #[]] 72)) (.cells #[.slice none 0 0] 46)
    rw [World.size_alloc] at this
    rw [hV, hb0]; exact this
  have hvs : V.heap.size = b0 + 2 := by rw [hV, hb0]; simp
  have HB := Lib.hid hb
  have HB0 := Lib.hid hb0
  have HK := Lib.hid hk
  have HK1 := Lib.hid hk1
  have HVS := Lib.hid hvs
  have HS := Lib.hid (Rw.later hs hb)
  clear hb hk hk1 hvs
  refine callsIn_of_wp_marks Tryz.func58 rfl trivial ?_ rfl
  simp only [Tryz.ntmps58, List.size_toArray, List.length_cons, List.length_nil, Nat.reduceAdd, Nat.reduceSub, Array.replicate_succ, Array.replicate_zero, List.push_toArray, List.append_toArray, List.nil_append, List.cons_append]
  refine wpIn_wide.2 ?_
  go_upto_region 2 with fail
  rw [← hV, ← hb0]
  clear hV hb0
  go_wp2_with fail
  refine (back_any p L.length cap V).mono ?_
  rintro e w1 ⟨rfl, rfl⟩
  rw [HVS.out]
  obtain ⟨U, hU⟩ : ∃ U, U = V.alloc (.cells #[.slice p L.length cap] 46) := ⟨_, rfl⟩
  have hbU : Below V.heap.size V U := by rw [hU]; exact (Below.refl _ _).alloc (Nat.le_refl _) _
  have hus : U.heap.size = b0 + 3 := by rw [hU, World.size_alloc, HVS.out]
  have hub : U.heap[b0 + 2]? = some (.cells #[.slice p L.length cap] 46 (0, 0)) := by rw [hU, ← HVS.out]; exact block_alloc_new V _
  rw [← hU]
  have HUS := Lib.hid hus
  have HU1 := Lib.hid ((hbU.block (b0 + 1) (lt_of_block HK1.out)).trans HK1.out)
  have HU0 := Lib.hid ((hbU.block b0 (lt_of_block HK.out)).trans HK.out)
  have HBU := Lib.hid (HB.out.trans (hbU.mono HB.out.size))
  have hSU : Stp (fun k => Z k ∨ k = b0 + 2) U (.slice p L.length cap) L := (Rw.later HS.out hbU).mono fun k hk => .inl hk
  have HIT := Lib.hid (fun n => back_iter (fun k => Z k ∨ k = b0 + 2) n (b0 + 2) _ L U hub hSU (.inr rfl) (by omega))
  clear hU hbU hus hub hSU HB HK HK1 HVS HS
  go_wp2
  refine (wpIn_wide (n := 6)).1 ?_
  have hzz : ∀ k, k = b0 + 1 ∨ b0 + 3 ≤ k → ¬ (Z k ∨ k = b0 + 2) := by
    rintro k h1 (h2 | h2)
    · have := hz k h2; have := HB0.out; omega
    · omega
  refine range_lawX (n := 6) rfl (by omega) (gf := 105) (lb := #[.pointer (some ⟨b0 + 2, 0, none⟩)]) rfl trivial (enters_of Tryz.func105 (by kernel_rfl) rfl) (HIT.out 5) (fun h k => KpZ.t h k) (fun W l o o' hl ho => KpZ.put W l o o' hl ho) (fun _ => rfl)
    (fun (pre : List (Nat × (Bool × Int))) W => OwnBox W (b0 + 1) 46 (b0 + 3) 40 9 pre.length (svs (pre.map fun x => invS x.2)) ∧ Boxed W b0 72 (.func (.func 59) #[] #[]) ∧ Below (b0 + 1) U W)
    (fun c (pre : List (Nat × (Bool × Int))) W => False) ?hI0 ?hIx0 ?h00 (fun D x a' W => ∃ Bx, (∃ v, Boxed W (b0 + 1) 46 v ∧ v.ownBlock ≠ some Bx) ∧ W.heap[Bx]? = some (.cells #[.bool x.2.1, Ii x.2.2, Ii 0, .bool true, Ii x.2.2, Ii 0, Ii x.2.2, Ii 1, .slice none 0 0] 40 (0, 0)) ∧ a' = { tmps := #[.slice p L.length cap, .func (.func 59) #[] #[], undef, .pointer (some ⟨b0, 0, none⟩), .slice none 0 0, .pointer (some ⟨b0 + 1, 0, none⟩), undef, .pointer (some ⟨Bx, 0, none⟩), .slice p L.length cap, .func (.func 105) #[] #[.pointer (some ⟨b0 + 2, 0, none⟩)], .int .i64 (x.1 : Nat), .agg #[.bool x.2.1, Ii x.2.2, Ii 0, .bool true, Ii x.2.2, Ii 0, Ii x.2.2, Ii 1, .slice none 0 0], undef, undef, undef, undef, undef, undef, undef], defers := [] }) ?hAx0 ?assign0 ?body0 ?done0 ?stop0
  case hI0 => exact OwnFrom.and (Own.from (ownBox_own (b0 + 1) 46 (b0 + 3) 40 9 (fun pre : List (Nat × (Bool × Int)) => pre.length) (fun pre => svs (pre.map fun x => invS x.2))) _) (OwnFrom.and (Own.from (boxed_own b0 72 (fun _ : List (Nat × (Bool × Int)) => .func (.func 59) #[] #[])) _) (ownFrom_below (by rw [HUS.out]; omega) (by rw [HUS.out]; omega)))
  case hIx0 => exact fun _ _ _ _ _ h => h.elim
  case h00 => exact ⟨⟨_, HU1.out, rfl, .inl ⟨rfl, rfl⟩⟩, HU0.out, Below.refl _ _⟩
  case hAx0 =>
    rintro D x a' W l o o' ⟨Bx, ⟨v, h1, h1'⟩, h2, h3⟩ hl ho
    have hne1 : b0 + 1 ≠ l := by rintro rfl; rw [show W.heap[b0 + 1]? = _ from h1] at hl; cases hl; simp [Obj.isCells] at ho
    refine ⟨Bx, ⟨v, (World.putObj_heap_other hne1).trans h1, h1'⟩, ?_, h3⟩
    have hne : Bx ≠ l := by rintro rfl; rw [h2] at hl; cases hl; simp [Obj.isCells] at ho
    rw [World.putObj_heap_other hne]
    exact h2
  case assign0 =>
    rintro l pre x W K ⟨hbx, hB0, hBw⟩ hK
    simp only [bkV, sv]
    gi_wp2
    have hsz := hBw.size
    obtain ⟨v0, hv0, ho0⟩ := hbx
    have hbx : OwnBox W _ _ _ _ _ _ _ := ⟨v0, hv0, ho0⟩
    exact hK _ _ (KeepsOthers.alloc _ _) (KpZ.below ((Below.refl _ W).alloc (Nat.le_refl _) _)) ⟨hbx.cellsKeep fun k cs t fr e => block_alloc_old _ e, hB0.alloc _, hBw.alloc (by have := HUS.out; omega) _⟩ ⟨W.heap.size, ⟨v0, hv0.alloc _, fun e => by have := (ownsRow_lo ho0 e).2; omega⟩, block_alloc_new W _, rfl⟩
  case body0 =>
    rintro l D pre x a' W ⟨⟨v, hv, ho⟩, hB0, hBw⟩ ⟨Bx, ⟨v', hv', hD⟩, hx, rfl⟩ hlt hpN
    obtain rfl : v = v' := by
      unfold Boxed at hv hv'
      rw [hv] at hv'
      cases hv'
      rfl
    have hlen : pre.length < 1001 := by
      have h1 := hpN.length_le
      simp [backs] at h1
      omega
    have hsz := hBw.size
    have hUS := HUS.out
    have hblt := lt_of_block hx
    have HKP : Hid (∀ X, Below W.heap.size W X → Boxed X (b0 + 1) 46 v ∧ Boxed X b0 72 (.func (.func 59) #[] #[]) ∧ X.heap[Bx]? = some (.cells #[.bool x.2.1, Ii x.2.2, Ii 0, .bool true, Ii x.2.2, Ii 0, Ii x.2.2, Ii 1, .slice none 0 0] 40 (0, 0))) := Lib.hid fun X hX =>
      ⟨(hX.block _ (lt_of_block hv)).trans hv, (hX.block _ (lt_of_block hB0)).trans hB0, (hX.block _ hblt).trans hx⟩
    obtain ⟨i0, hi0, hz0, hz1, hz2⟩ := info_parts Tryz.info40
    have HO := Lib.hid ho
    have HBW := Lib.hid hBw
    clear hv ho hB0 hBw hx
    gi_wp2_with fail
    refine wpIn_region_orderT (fun X => Boxed X (b0 + 1) 46 v ∧ Boxed X b0 72 (.func (.func 59) #[] #[]) ∧ X.heap[Bx]? = some (.cells #[.bool x.2.1, Ii x.2.2, Ii 0, .bool true, Ii x.2.2, Ii 0, Ii x.2.2, Ii 1, .slice none 0 0] 40 (0, 0))) [(true, 0), (true, 1), (true, 2), (false, 3), (false, 4), (false, 5)] [6] (by kernel_rfl) (by kernel_rfl) (fun c a d v w h => by simp only [Exit.inBlock] at h ⊢; cases d <;> exact h) (by rintro ⟨a, w, h⟩; exact h) (HKP.out _ (below_drewN (Below.refl _ _) 1)) ?_
    refine orderT_take (o := ⟨_, _, _, _, _, _⟩) (v := ?_) rfl (Or.inl ⟨by rfl, ?_⟩) ?_
    rotate_left
    · (rintro X ⟨z1, z2, z3⟩; have c0 := cell_of (o := 0) (v := v) z1 rfl; go_simp; try with_reducible rfl)
    try simp only [Act.put, List.setIfInBounds_toArray, List.set_cons_zero, List.set_cons_succ]
    refine orderT_take (o := ⟨_, _, _, _, _, _⟩) (v := ?_) rfl (Or.inl ⟨by rfl, ?_⟩) ?_
    rotate_left
    · (rintro X ⟨z1, z2, z3⟩; have c0 := cell_of (o := 0) (v := .func (.func 59) #[] #[]) z2 rfl; go_simp; try with_reducible rfl)
    try simp only [Act.put, List.setIfInBounds_toArray, List.set_cons_zero, List.set_cons_succ]
    refine orderT_take (o := ⟨_, _, _, _, _, _⟩) (v := ?_) rfl (Or.inl ⟨by rfl, ?_⟩) ?_
    rotate_left
    · (rintro X ⟨z1, z2, z3⟩; have d0 := cell_of (o := 0) (v := .bool x.2.1) z3 rfl; have d1 := cell_of (o := 1) (v := Ii x.2.2) z3 rfl; have d2 := cell_of (o := 2) (v := Ii 0) z3 rfl; have d3 := cell_of (o := 3) (v := .bool true) z3 rfl; have d4 := cell_of (o := 4) (v := Ii x.2.2) z3 rfl; have d5 := cell_of (o := 5) (v := Ii 0) z3 rfl; have d6 := cell_of (o := 6) (v := Ii x.2.2) z3 rfl; have d7 := cell_of (o := 7) (v := Ii 1) z3 rfl; have d8 := cell_of (o := 8) (v := .slice none 0 0) z3 rfl; go_simp; try with_reducible rfl)
    try simp only [Act.put, List.setIfInBounds_toArray, List.set_cons_zero, List.set_cons_succ]
    obtain ⟨W0, hW0⟩ : ∃ Y, Y = W.drew := ⟨_, rfl⟩
    have hb20 : Below W.heap.size W W0 := by rw [hW0]; exact below_drewN (Below.refl _ _) 1
    rw [← hW0]
    clear hW0
    have HB20 := Lib.hid hb20
    clear hb20
    refine orderT_do (o := ⟨_, _, _, _, _, _⟩) rfl (fun K hK => ?_)
    go_simp
    refine (inv1_lit x.2.1 x.2.2 W0).mono ?_
    rintro e W1 ⟨rfl, hb1⟩
    have HB21 := Lib.hid (HB20.out.trans (hb1.mono HB20.out.size))
    refine hK.out _ _ (HKP.out _ HB21.out) (fun _ => ?_)
    clear hK K hb1
    try simp only [Act.put, List.setIfInBounds_toArray, List.set_cons_zero, List.set_cons_succ]
    refine orderT_do (o := ⟨_, _, _, _, _, _⟩) rfl (fun K hK => ?_)
    go_simp
    obtain ⟨W3, hW3⟩ : ∃ Y, Y = W1.alloc (.cells #[.bool (!x.2.1), Ii x.2.2, Ii 0, .bool true, Ii x.2.2, Ii 0, Ii x.2.2, Ii 1, .slice none 0 0] 40) := ⟨_, rfl⟩
    have hb23 : Below W1.heap.size W1 W3 := by rw [hW3]; exact (Below.refl _ _).alloc (Nat.le_refl _) _
    rw [← hW3]
    have hnw : ∀ j u, ([.bool (!x.2.1), Ii x.2.2, Ii 0, .bool true, Ii x.2.2, Ii 0, Ii x.2.2, Ii 1, .slice none 0 0] : List Value)[j]? = some u → W3.cell? ((⟨W1.heap.size, 0, none⟩ : Addr).add j) = some u := by rw [hW3]; exact cells_new W1 [.bool (!x.2.1), Ii x.2.2, Ii 0, .bool true, Ii x.2.2, Ii 0, Ii x.2.2, Ii 1, .slice none 0 0] 40
    have HB23 := Lib.hid (HB21.out.trans (hb23.mono HB21.out.size))
    have ho3 := ownsRow_below HO.out HB23.out
    have HNW := Lib.hid hnw
    have HO3 := Lib.hid ho3
    refine hK.out _ _ (HKP.out _ HB23.out) (fun _ => ?_)
    clear hK K hb23 hnw ho3 hW3 HB21 HB20
    try simp only [Act.put, List.setIfInBounds_toArray, List.set_cons_zero, List.set_cons_succ]
    have h3s := HB23.out.size
    refine orderT_do (o := ⟨_, _, _, _, _, _⟩) rfl (fun K hK => ?_)
    refine step_append_lies W3 rfl _ _ 46 rfl (b0 + 3) 40 i0 _ 9 88 Tryz.underlying46 hi0 hz0 hz1 hz2 rfl (by decide) v pre.length (svs (pre.map fun x => invS x.2)) rfl HO3.out ⟨W1.heap.size, 0, none⟩ 1 1 [.bool (!x.2.1), Ii x.2.2, Ii 0, .bool true, Ii x.2.2, Ii 0, Ii x.2.2, Ii 1, .slice none 0 0] rfl rfl HNW.out ?ea (by decide) ?eb ?ec (by omega) _ rfl ?ed
    case ea => exact svs_one [invS x.2]
    case eb => unfold maxLen; omega
    case ec => omega
    case ed =>
      intro g' cap' w4 ho hgr hor hlt2
      have hB4 : KpZ (fun k => v.ownBlock ≠ some k) W w4 := by
        intro k cs t fr hk e
        have h1 := (HB23.out.block k (lt_of_block e)).trans e
        exact (hgr.block k (lt_of_block h1) hk.symm).trans h1
      have hvb : ∀ k, v.ownBlock = some k → b0 + 3 ≤ k := fun k hk => (ownsRow_lo HO.out hk).1
      have hn0 : v.ownBlock ≠ some b0 := fun e => by have := hvb _ e; omega
      have hn1 : v.ownBlock ≠ some (b0 + 1) := fun e => by have := hvb _ e; omega
      obtain ⟨k1, k2, k3⟩ := HKP.out W (Below.refl _ _)
      have hv4 : Boxed w4 (b0 + 1) 46 v := hB4 _ _ _ _ hn1 k1
      have hf4 : Boxed w4 b0 72 (.func (.func 59) #[] #[]) := hB4 _ _ _ _ hn0 k2
      have HV4 := Lib.hid hv4
      have HF4 := Lib.hid hf4
      have HO4 := Lib.hid ho
      have HB4 := Lib.hid hB4
      have HG4 := Lib.hid hgr
      refine hK.out _ _ ⟨hv4, hf4, hB4 _ _ _ _ hD k3⟩ (fun _ => ?_)
      have e1 := free_of (o := 0) hv4
      have e2 := cell_of (o := 0) (v := v) hv4 rfl
      clear hK K ho hgr hor hv4 hf4 hB4 k1 k2 k3
      try simp only [Act.put, List.setIfInBounds_toArray, List.set_cons_zero, List.set_cons_succ]
      refine tail_do (o := ⟨_, _, _, _, _, _⟩) rfl (fun K hK => ?_)
      go_simp
      refine hK.out _ _ ?_
      clear hK K
      try simp only [Act.put, List.setIfInBounds_toArray, List.set_cons_zero, List.set_cons_succ]
      simp only [inTail]
      have hk3 : KeepsOthers W W3 := ⟨HB23.out.size, fun k o h _ => (HB23.out.block k (lt_of_block h)).trans h⟩
      have hk4 : KeepsOthers W3 w4 := KeepsOthers.of_grownBy HG4.out (fun j o hj hjo => by
        obtain ⟨cur, hc⟩ := ownsRow_cells HO3.out hj
        rw [hc] at hjo; cases hjo; rfl)
      have hb3 : Below (b0 + 1) U W3 := HBW.out.trans (HB23.out.mono (by omega))
      have hb4 : Below (b0 + 1) U w4 := hb3.grown HG4.out (by omega) (fun k hk => by have := hvb k hk; omega)
      refine ⟨(hk3.trans hk4).trans (KeepsOthers.setCell _ _ _), ?_, ⟨_, block_setCell (o := 0) _ HV4.out, ?_⟩, (block_setCell_other _ (by show b0 ≠ b0 + 1; omega)).trans HF4.out, hb4.setCell (p := ⟨b0 + 1, 0, none⟩) (Nat.le_refl _) _⟩
      · intro k cs t fr hk e
        have h1 : k ≠ b0 + 1 := fun e => hzz k (.inl e) hk
        have h2 : v.ownBlock ≠ some k := fun e => hzz k (.inr (hvb k e)) hk
        exact (block_setCell_other _ h1).trans (HB4.out _ _ _ _ h2 e)
      · rw [List.map_append, svs_append, List.length_append]
        exact ownsRow_setCell HO4.out (show b0 + 1 < b0 + 3 by omega) _
  case done0 =>
    rintro D xs W hD hxs ⟨⟨v, hv, ho⟩, hB0, hBw⟩ hm
    have HM := Lib.hid hm
    have HV := Lib.hid hv
    have HO := Lib.hid ho
    have HBW := Lib.hid hBw
    have c0 := cell_of (o := 0) (v := v) hv rfl
    clear hm hv ho hB0 hBw HIT
    go_wp2
    have hwb : w.heap.size ≤ b0 + 1 := by rw [HB0.out]; omega
    have hb : Below w.heap.size w W := HBU.out.trans (HBW.out.mono hwb)
    have hDw : w.heap.size ≤ D := Nat.le_trans HBU.out.size hD
    refine ⟨by simp, .inl ⟨D, _, rfl, run_takeDeferred HM.out, ?_⟩⟩
    refine ⟨v, by simp [results, Tryz.f58, go_sem], ⟨v, rfl, ?_⟩, hb.trans (belowK_b (w := w) (n₀ := w.heap.size) (Nat.le_refl _) _ D _ _ hDw HM.out rfl rfl)⟩
    have ho := ownsRow_putObj HO.out (.deferred none) HM.out rfl
    have hl : xs.length = (L.reverse.map invS).length := by rw [hxs]; simp [backs]
    rw [hl, hxs, backs_map] at ho
    exact (Rw.of_own ho (by decide)).mono fun k hk => ⟨by omega, hk.2⟩
  case stop0 => exact fun D c pre W hD hp h => h.elim

theorem Rw.inn {Z : Nat → Prop} {w : World} {size n : Nat} {s : Value} {xs : List Value} (h : Rw Z w size s n xs) (hs : 0 < size) : Rw (fun k => Z k ∧ k < w.heap.size) w size s n xs := by
  refine ⟨h.1, ?_⟩
  rcases h.2 with h1 | ⟨b, off, c, e, hc, hz, k⟩
  · exact .inl h1
  · rcases Nat.eq_zero_or_pos n with h0 | h0
    · exact .inl ⟨h0, _, c, by rw [e, h0]⟩
    · refine .inr ⟨b, off, c, e, hc, ⟨hz, ?_⟩, k⟩
      have hl : 0 < xs.length := by rw [h.1]; exact Nat.mul_pos h0 hs
      exact World.block_lt_of_cell? w _ (k 0 _ (List.getElem?_eq_getElem hl))

theorem inverse_any {Z : Nat → Prop} (s : Value) (L : List (Bool × Int)) (w : World) (hs : Stp Z w s L) (hL : L.length ≤ 1000) :
    Calls Tryz.prog 34 #[s] w fun e w' => (∃ v, e = .returned v ∧ Stp (fun k => w.heap.size ≤ k ∧ k < w'.heap.size) w' v (L.reverse.map invS)) ∧ Below w.heap.size w w' := by
  have HT := Lib.hid (callsIn_wide.1 (turned_in s L w (Rw.inn hs (by decide)) (fun k hk => hk.2) hL))
  clear hs
  go_enter Tryz.func34, Tryz.ntmps34
  go_wp2_with fail
  refine HT.out.mono ?_
  rintro e w1 ⟨⟨v, rfl, h1⟩, h2⟩
  have H := Lib.hid (And.intro h1 h2)
  clear h1 h2
  go_wp2
  go_ret
  exact ⟨⟨v, rfl, H.out.1⟩, H.out.2⟩

theorem cancel_open {Z : Nat → Prop} (jb : Nat) (s d u : Value) (L : List (Bool × Int)) (w : World) (h : JB w jb s true d u true) (hs : Stp Z w s L) (hz : ¬ Z jb) (hL : L.length ≤ 1000) :
    Calls Tryz.prog 15 #[.pointer (some ⟨jb, 0, none⟩)] w fun e w' => (∃ v, e = .returned (.tuple #[v, .int .i64 0]) ∧ Stp (fun k => w.heap.size ≤ k ∧ k < w'.heap.size) w' v (L.reverse.map invS)) ∧ JB w' jb (.slice none 0 0) false d u true ∧ Chg (fun k => k = jb) w w' := by
  have HSH := Lib.hid (shut_open jb s d u w h)
  have HS := Lib.hid hs
  clear h hs
  go_enter Tryz.func15, Tryz.ntmps15
  go_wp2_with fail
  refine HSH.out.mono ?_
  rintro e w1 ⟨rfl, hj1, hc1⟩
  have hs1 : Stp Z w1 s L := Rw.keep HS.out hc1 (fun k hk e => hz (e ▸ hk))
  have HI := Lib.hid (inverse_any s L w1 hs1 hL)
  have HJ := Lib.hid hj1
  have HC := Lib.hid hc1
  clear hj1 hc1 hs1
  go_wp2_with fail
  refine HI.out.mono ?_
  rintro e w2 ⟨⟨v, rfl, h1⟩, h2⟩
  have H := Lib.hid (And.intro h1 h2)
  clear h1 h2
  go_wp2
  go_ret2
  have h12 := HC.out.size
  exact ⟨⟨v, rfl, H.out.1.mono fun k hk => ⟨by omega, hk.2⟩⟩, HJ.out.later H.out.2, HC.out.trans (Chg.of_below H.out.2)⟩
end Go.Proofs.YticconhcphocbaaGreatDoor
