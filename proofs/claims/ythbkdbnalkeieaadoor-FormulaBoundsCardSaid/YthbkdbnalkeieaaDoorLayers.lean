/- The walk of Layers. -/
import Derived.Test.YthbkdbnalkeieaaDoorWalk2
namespace Go.Proofs.YthbkdbnalkeieaaDoor
open Go.RowKit Go.Sort Go.Shelf

attribute [local go_sem] Oper.semAt_some

/-- The numbers of the layers that stand in a list of parts. -/
def lays (l : List Part) : List Int := (l.filter (fun x => x.op == 1)).map Part.la

theorem Chg.grow {S : Nat → Prop} {w w1 : World} (h : Chg S w w1) (os : Array Obj) : Chg S w (Sort.grow w1 os) :=
  ⟨h.os, h.tape, h.output, Nat.le_trans h.size (by simp [Sort.grow]), fun k hk hS => by
    rw [← h.block k hk hS]
    show (w1.heap ++ os)[k]? = _
    rw [Array.getElem?_append_left (Nat.lt_of_lt_of_le hk h.size)]⟩
theorem Chg.ahead {S : Nat → Prop} {w w1 : World} (h : Chg S w w1) (n : Nat) : Chg S w (Sort.ahead w1 n) := ⟨h.os, h.tape, h.output, h.size, h.block⟩
theorem size_ahead (w : World) (n : Nat) : (Sort.ahead w n).heap.size = w.heap.size := rfl
theorem size_putRow (w : World) (b off : Nat) (d : Array Int) : (putRow (Value.int .i64) w b off d).heap.size = w.heap.size := by simp [putRow, mapBlock]

theorem compact_le (zs : List Int) : (Lib.compact zs).length ≤ zs.length := by
  unfold Lib.compact Lib.compactUpTo
  rw [List.length_map]
  exact Nat.le_trans (List.length_filter_le _ _) (by simp)

set_option maxHeartbeats 1000000 in
/-- once: sorted, each once. -/
theorem once_any (B : Nat) (v : Value) (zs : List Int) (w : World) (h : w.ownsRow B 3 1 v zs.length (zs.map In)) (hsz : zs.length < 1000000000) :
    Calls Tryd.prog 39 #[v] w fun e w' => ∃ p c, e = .returned (.slice p (Lib.compact (zs.mergeSort fun x y => decide (x ≤ y))).length c) ∧
      (∀ j x, (Lib.compact (zs.mergeSort fun x y => decide (x ≤ y)))[j]? = some x → ∃ b, p = some ⟨b, 0, none⟩ ∧ w'.cell? ⟨b, j, none⟩ = some (In x)) ∧ (B ≤ w.heap.size → Below B w w') ∧ KeepsOthers w w' := by
  rcases h.2 with ⟨rfl, h0⟩ | ⟨k, cap, cur, rfl, hk, hblk, h1, h2, h3, h4⟩
  · obtain rfl : zs = [] := List.length_eq_zero_iff.1 h0
    go_enter Tryd.func39, Tryd.ntmps39
    go_wp2_with fail
    refine (Tryd.slices_Sort_int_none none 0 w).mono ?_
    rintro e w1 ⟨rfl, rfl⟩
    go_wp2_with fail
    refine (Tryd.slices_Compact_int_empty none 0 _).mono ?_
    rintro e w2 ⟨rfl, rfl⟩
    go_wp2
    go_ret
    exact ⟨none, 0, by simp [Lib.compact, Lib.compactUpTo], by simp [Lib.compact, Lib.compactUpTo], fun h => Below.refl _ _, KeepsOthers.refl _⟩
  · obtain ⟨ss, hss⟩ : ∃ ss, ss = zs.mergeSort fun x y => decide (x ≤ y) := ⟨_, rfl⟩
    have hlen : ss.length = zs.length := by rw [hss, List.length_mergeSort]
    have hH : Holds (Value.int .i64) w k 0 zs.toArray := by
      intro j hj
      have hj' : j < zs.length := by simpa using hj
      refine ⟨?_, ?_⟩
      · rw [Nat.zero_add, h.cellAt _ (by simpa using hj')]
        simp [hj']
      · exact free_of hblk
    have hlt := lt_of_block hblk
    rw [← hss]
    have HSO := Tryd.slices_Sort_int k 0 cap zs w hH hlt (by omega)
    rw [← hss] at HSO
    have hcmp : (Lib.compact ss).length ≤ ss.length := compact_le ss
    have HSO' := Lib.hid HSO
    have HH := Lib.hid hH
    clear HSO hH h h4 hss
    go_enter Tryd.func39, Tryd.ntmps39
    go_wp2_with fail
    refine HSO'.out.mono ?_
    rintro e w1 ⟨rfl, n, os, hw1⟩
    have hH1 : Holds (Value.int .i64) w1 k 0 ss.toArray := by
      rw [hw1]
      exact holds_grow _ _ _ _ _ _ (by rw [size_putRow]; exact hlt) (holds_putRow _ _ _ _ _ _ (holds_ahead _ _ n _ _ _ HH.out) (by simp [hlen]))
    have hc1 : Chg (fun x => x = k) w w1 := by
      rw [hw1]
      exact (((Chg.refl (fun x => x = k) w).ahead n).putRow _ _ _ (fun _ => rfl)).grow os
    have HH1 := Lib.hid hH1
    have HC1 := Lib.hid hc1
    clear hw1 hH1 hc1
    have hcc := Tryd.slices_Compact_int k 0 cap ss w1 HH1.out (by omega) (by omega)
    rw [hlen] at hcc
    have HCC := Lib.hid hcc
    clear hcc
    go_wp2_with fail
    refine HCC.out.mono ?_
    rintro e w2 ⟨rfl, q, hw2⟩
    have hH2 : Holds (Value.int .i64) w2 k 0 (Lib.compact ss ++ List.replicate (zs.length - (Lib.compact ss).length) 0).toArray := by
      rw [hw2]
      exact holds_putRow _ _ _ _ _ _ (holds_ahead _ _ q _ _ _ HH1.out) (by simp; omega)
    have hc2 : Chg (fun x => x = k) w w2 := by
      rw [hw2]
      exact HC1.out.trans (((Chg.refl (fun x => x = k) w1).ahead q).putRow _ _ _ (fun _ => rfl))
    have HH2 := Lib.hid hH2
    have HC2 := Lib.hid hc2
    clear hw2 hH2 hc2
    go_wp2
    go_ret
    refine ⟨_, _, rfl, fun j x hx => ⟨k, rfl, ?_⟩, fun hB => HC2.out.below (fun x _ e => by omega) hB, ⟨HC2.out.size, fun i o hi ho => HC2.out.keep hi (fun e => by subst e; rw [hblk] at hi; cases hi; simp [Obj.isCells] at ho)⟩⟩
    have hj : j < (Lib.compact ss).length := by
      rcases Nat.lt_or_ge j (Lib.compact ss).length with h | h
      · exact h
      · rw [List.getElem?_eq_none h] at hx; cases hx
    have := (HH2.out j (by simp; omega)).1
    rw [Nat.zero_add] at this
    rw [this]
    rw [List.getElem?_eq_getElem hj] at hx
    cases hx
    simp
    rw [List.getElem?_append_left hj, List.getElem?_eq_getElem hj]
    rfl

/-- The layers of a formula: sorted, each once. -/
def laysOf (op la : Int) (A : Anf) (p : Option Addr) (cap : Nat) : List Int := lays (⟨op, la, p, cap, A.er⟩ :: A.list)
def LaysEnd (w : World) (ls : List Int) (e : Ending) (w' : World) : Prop :=
  ∃ p c, e = .returned (.tuple #[.slice p ls.length c, .int .i64 0]) ∧ (∀ j x, ls[j]? = some x → ∃ b, p = some ⟨b, 0, none⟩ ∧ w'.cell? ⟨b, j, none⟩ = some (In x)) ∧ Below w.heap.size w w'

theorem Tryd.info3 : (Tryd.prog.info? 3).map (fun i => (i.zero, i.size, i.bytes)) = some (some (.int .i64 0), 1, 8) := by kernel_rfl

theorem KpT.appended {Z : Nat → Prop} {W w1 : World} {n₁ B k : Nat} {v v' : Value} {xs : List Value} {tmp : Obj} (hv : Boxed W B 43 v) (hrow : W.ownsRow n₁ 3 1 v k xs) (hZ : ∀ k, Z k → k < n₁ ∧ k ≠ B) (hgrow : (W.alloc tmp).grownBy w1 v.ownBlock) :
    KpT Z W (w1.setCell ⟨B, 0, none⟩ v') := by
  intro k cs t fr hz e
  have hkB : k ≠ B := by
    rcases hz with hz | rfl
    · exact (hZ k hz).2
    · rintro rfl
      rw [show W.heap[k]? = _ from hv] at e
      simp at e
  have hkr : some k ≠ v.ownBlock := by
    rcases hrow.2 with ⟨rfl, _⟩ | ⟨g, cap, cur, rfl, hg, hgb, _⟩
    · simp [Value.ownBlock]
    · intro e'
      obtain rfl : k = g := by simpa [Value.ownBlock] using e'
      rcases hz with hz | rfl
      · have := (hZ k hz).1; omega
      · rw [hgb] at e; simp at e
  have hlt := lt_of_block e
  rw [block_setCell_other (p := ⟨B, 0, none⟩) v' hkB, hgrow.block k (by simp; omega) hkr]
  exact block_alloc_old _ e

theorem KeepsOthers.appended {W w1 : World} {n₁ B k : Nat} {v v' : Value} {xs : List Value} {tmp : Obj} (hrow : W.ownsRow n₁ 3 1 v k xs) (hgrow : (W.alloc tmp).grownBy w1 v.ownBlock) : KeepsOthers W (w1.setCell ⟨B, 0, none⟩ v') := by
  have h2 : KeepsOthers (W.alloc tmp) w1 := by
    refine KeepsOthers.of_grownBy hgrow fun j o ej hj => ?_
    rcases hrow.2 with ⟨rfl, _⟩ | ⟨g, cap, cur, rfl, _, hgb, _⟩
    · simp [Value.ownBlock] at ej
    · obtain rfl : g = j := by simpa [Value.ownBlock] using ej
      rw [block_alloc_old tmp hgb] at hj
      cases hj
      rfl
  exact ((KeepsOthers.alloc W tmp).trans h2).trans (KeepsOthers.setCell _ _ _)

theorem list_le : ∀ A : Anf, A.list.length ≤ A.er.size
  | .nil => by simp [Anf.list, Anf.er, Fms.size]
  | .cons _ _ _ _ of r => by have := list_le of; have := list_le r; simp [Anf.list, Anf.er, Fms.size]; omega

abbrev LP := { _x : Part // True }
def layI (w : World) (n₁ B : Nat) (pre : List LP) (W : World) : Prop :=
  (∃ v, Boxed W B 43 v ∧ W.ownsRow n₁ 3 1 v (lays (pre.map Subtype.val)).length ((lays (pre.map Subtype.val)).map In) ∧ True) ∧ Below w.heap.size w W
theorem lays_snoc (pre : List LP) (x : LP) : lays ((pre ++ [x]).map Subtype.val) = lays (pre.map Subtype.val) ++ (if x.val.op = 1 then [x.val.la] else []) := by
  simp only [lays, List.map_append, List.filter_append, List.map_cons, List.map_nil]
  by_cases h : x.val.op = 1
  · simp [h]
  · simp [h]
theorem lays_le (l : List Part) : (lays l).length ≤ l.length := by
  unfold lays
  rw [List.length_map]
  exact List.length_filter_le _ _

set_option maxHeartbeats 4000000 in
set_option maxRecDepth 100000 in
theorem Layers_ok (op la : Int) (of : Fms) (s : Value) (w : World) (hc : chk op la of = 0) (hsz : of.size < 1000000) (hs : SlIs w s of) :
    Calls Tryd.prog 18 #[.agg #[.int .i64 op, .int .i64 la, s]] w fun e w' => ∃ A p cap, A.er = of ∧ LaysEnd w (Lib.compact ((laysOf op la A p cap).mergeSort fun x y => decide (x ≤ y))) e w' := by
  obtain ⟨p, cap, rfl⟩ := hs.slice
  refine (callsIn_wide (n := 5)).1 ?_
  obtain ⟨b0, hb0⟩ : ∃ b0, b0 = w.heap.size := ⟨_, rfl⟩
  obtain ⟨W, hW⟩ : ∃ W, W = w.alloc (.cells #[.int .i64 op, .int .i64 la, .slice p of.len cap] 26) := ⟨_, rfl⟩
  have hB : Below w.heap.size w W := by rw [hW]; exact (Below.refl _ w).alloc (Nat.le_refl _) _
  have hK : W.heap[b0]? = some (.cells #[In op, In la, .slice p of.len cap] 26 (0, 0)) := by rw [hW, hb0]; exact block_alloc_new w _
  have HS := Lib.hid (hs.later hB)
  have HB := Lib.hid hB
  have HK := Lib.hid hK
  have HC := Lib.hid hc
  clear hs hB hK hc
  refine callsIn_of_wp_marks Tryd.func18 rfl trivial ?_ rfl
  simp only [Tryd.ntmps18, List.size_toArray, List.length_cons, List.length_nil, Nat.reduceAdd, Nat.reduceSub, Array.replicate_succ, Array.replicate_zero, List.push_toArray, List.append_toArray, List.nil_append, List.cons_append]
  gi_wp2
  rw [← hW, ← hb0]
  refine ⟨trivial, (callsIn_wide.2 (check_any op la of (.slice p of.len cap) W (by omega) HS.out)).mono ?_⟩
  rintro e w1 ⟨rfl, hb1⟩
  rw [HC.out]
  have hk1 := (hb1.block b0 (lt_of_block HK.out)).trans HK.out
  obtain ⟨X, hX⟩ : ∃ X, X = w1.alloc (.cells #[.slice none 0 0] 43) := ⟨_, rfl⟩
  obtain ⟨B, hBq⟩ : ∃ B, B = w1.heap.size := ⟨_, rfl⟩
  have hbX : Below w1.heap.size w1 X := by rw [hX]; exact (Below.refl _ w1).alloc (Nat.le_refl _) _
  have hkX := (hbX.block b0 (lt_of_block hk1)).trans hk1
  have hBX : Boxed X B 43 (.slice none 0 0) := by rw [hX, hBq]; exact Boxed.new w1 _ _
  have HSX := Lib.hid ((HS.out.later hb1).later hbX)
  have hb1' := HB.out.trans (hb1.mono HB.out.size)
  have HBX := Lib.hid (hb1'.trans (hbX.mono hb1'.size))
  have HKX := Lib.hid hkX
  have HBo := Lib.hid hBX
  have HBW := Lib.hid (show w.heap.size ≤ B by rw [hBq]; exact hb1'.size)
  have c0 := cell_of (o := 0) (v := In op) hkX rfl
  have c1 := cell_of (o := 1) (v := In la) hkX rfl
  have c2 := cell_of (o := 2) (v := .slice p of.len cap) hkX rfl
  rw [hX] at c0 c1 c2
  clear hk1 hbX hkX hBX hb1 hb1' hW hb0
  gi_wp2
  rw [← hX, ← hBq]
  clear hX hBq c0 c1 c2
  refine ⟨trivial, (callsIn_wide.2 (Walk_ok op la of (.slice p of.len cap) X HC.out hsz HSX.out)).mono ?_⟩
  rintro e w2 ⟨bx, p', cap', A, rfl, hbx, rfl, hA, hb2⟩
  have hB2 : Boxed w2 B 43 (.slice none 0 0) := (hb2.block B HBo.out.lt).trans HBo.out
  have hBw2 := HBX.out.trans (hb2.mono HBX.out.size)
  have hlt2 : B < w2.heap.size := hB2.lt
  gi_wp2
  obtain ⟨i0, hi, hz0, hz1, hz2⟩ := info_parts Tryd.info3
  have hsz2 : w.heap.size ≤ w2.heap.size := hBw2.size
  have hXs := hb2.size
  have HBX2 := Lib.hid HBo.out.lt
  have HA := Lib.hid hA
  have HWI := Lib.hid (walk_iter (fun _ => True) (fun k => X.heap.size ≤ k ∧ k < w2.heap.size) 4 bx op la p' cap' A w2 hbx hA (by omega) ((⟨op, la, p', cap', A.er⟩ :: A.list).map fun x => (⟨x, trivial⟩ : LP)) (by rw [List.map_map]; exact List.map_id'' (fun _ => rfl) _))
  have hlist : ((⟨op, la, p', cap', A.er⟩ :: A.list).map fun x => (⟨x, trivial⟩ : LP)).length ≤ 1000001 := by
    have := list_le A
    simp; omega
  have HL := Lib.hid hlist
  have HB2 := Lib.hid hB2
  have HBW2 := Lib.hid hBw2
  clear hA hbx hlist hB2 hBw2 hb2
  refine range_law (n := 5) rfl (by omega) (gf := 45) (lb := #[.pointer (some ⟨bx, 0, none⟩)]) rfl trivial (enters_of Tryd.func45 (by kernel_rfl) rfl) HWI.out
    (fun h k => h.t k) (fun W l o o' hl ho => KpT.put W l o o' hl ho) (fun _ => rfl)
    (layI w w2.heap.size B) (fun _ _ _ => False) ?hI (fun _ _ _ _ _ hs _ _ => hs) ?h0
    (fun D x a' W => ∃ Bx, D ≤ Bx ∧ W.heap[Bx]? = some (.cells #[In x.val.op, In x.val.la, .slice x.val.p x.val.of.len x.val.cap] 26 (0, 0)) ∧ a' = { tmps := #[.agg #[.int .i64 op, .int .i64 la, .slice p A.er.len cap], .pointer (some ⟨b0, 0, none⟩), .slice none 0 0, .int .i64 0, .int .i64 0, .pointer (some ⟨B, 0, none⟩), .pointer (some ⟨Bx, 0, none⟩), .agg #[.int .i64 op, .int .i64 la, .slice p A.er.len cap], .int .i64 0, .int .i64 0, .bool false, undef, .agg #[In op, In la, .slice p A.er.len cap], .func (.func 45) #[] #[.pointer (some ⟨bx, 0, none⟩)], .agg #[In x.val.op, In x.val.la, .slice x.val.p x.val.of.len x.val.cap], undef, undef, undef, undef, undef, undef, undef, undef, undef, undef], defers := [] })
    ?hAx ?assign ?body ?done ?stop
  case hI => exact OwnFrom.and (Own.from (holdsRow_own _ _ _ _ _ _ _ _) _) (ownFrom_below (Nat.le_refl _) hsz2)
  case h0 => exact ⟨⟨_, HB2.out, World.ownsRow_nil _ _ _ _, trivial⟩, HBW2.out⟩
  case hAx =>
    rintro D x a' W l o o' ⟨Bx, h1, h2, h3⟩ hl ho
    refine ⟨Bx, h1, ?_, h3⟩
    have hne : Bx ≠ l := by rintro rfl; rw [h2] at hl; cases hl; simp [Obj.isCells] at ho
    rw [World.putObj_heap_other hne]
    exact h2
  case assign =>
    rintro l pre x W K ⟨⟨v, hv, hrow, _⟩, hBw⟩ hK
    simp only [Part.v]
    gi_wp2
    exact hK _ _ (KeepsOthers.alloc _ _) (KpT.below ((Below.refl _ W).alloc (Nat.le_refl _) _)) ⟨⟨v, hv.alloc _, hrow.alloc _, trivial⟩, hBw.alloc hBw.size _⟩ ⟨W.heap.size, Nat.le_refl _, block_alloc_new W _, rfl⟩
  case body =>
    rintro l D pre x a' W ⟨⟨v, hv, hrow, _⟩, hBw⟩ ⟨Bx, hD, hx, rfl⟩ hlt hpN
    have c0 := cell_of (o := 0) (v := In x.val.op) hx rfl
    have c1 := cell_of (o := 1) (v := In x.val.la) hx rfl
    have hbound := lays_le (pre.map Subtype.val)
    rw [List.length_map] at hbound
    have hLb := HL.out
    have hWs := hBw.size
    by_cases h1 : x.val.op = 1
    · have e1 : (x.val.op == 1) = true := by rw [h1]; rfl
      have hsn : lays ((pre ++ [x]).map Subtype.val) = lays (pre.map Subtype.val) ++ [x.val.la] := by rw [lays_snoc, if_pos h1]
      have HSN := Lib.hid hsn
      have cB := hv.cell
      have hw2s : w2.heap.size ≤ W.heap.size := by have := lt_of_block hx; omega
      have q1 : (lays (pre.map Subtype.val)).length + 1 ≤ maxLen := by unfold maxLen; omega
      have q2 : ((lays (pre.map Subtype.val)).length + 1) * 8 ≤ 140737488355328 := by omega
      have q3 : w2.heap.size ≤ (W.alloc (.cells #[.int .i64 x.val.la] 3)).heap.size := by rw [World.size_alloc]; omega
      clear h1 hsn
      gi_wp2_with (gi_at_builtin; refine wpListIn_append_own _ rfl _ _ 43 rfl w2.heap.size 3 i0 (.int .i64 0) 1 8 Tryd.underlying43 hi hz0 hz1 hz2 rfl (by decide) _ _ _ rfl (hrow.alloc _) ⟨W.heap.size, 0, none⟩ 1 1 [.int .i64 x.val.la] rfl rfl (cell_one_new _ _ _) (by simp [Value.oneCell']) q1 q2 q3 ?_; intro v' w1 hown' hgrow _; obtain ⟨g', capg, rfl⟩ := ownsRow_succ hown'; have hv1 := (hv.alloc (.cells #[.int .i64 x.val.la] 3)).kept hgrow (hv.not_row (by decide) hrow); have hc1 := hv1.cell; have hf1 := hv1.frozen)
      have hgrow : (W.alloc (.cells #[.int .i64 x.val.la] 3)).grownBy w1 v.ownBlock := hgrow
      refine ⟨KeepsOthers.appended hrow hgrow, KpT.appended hv hrow (fun k hk => ⟨hk.2, by have := HBX2.out; omega⟩) hgrow, ⟨_, hv1.set _, ?_, trivial⟩, ?_⟩
      · rw [HSN.out, List.length_append, List.map_append]
        exact hown'.kept (grownBy_setCell' w1 B _) (.inr (hv1.not_row (by decide) hown').symm)
      · refine Below.setCell (p := ⟨B, 0, none⟩) ((hBw.alloc hWs _).grown hgrow (by rw [World.size_alloc]; omega) (fun j ej => ?_)) HBW.out _
        rcases hrow.2 with ⟨rfl, _⟩ | ⟨g, cap, cur, rfl, hg, _⟩
        · simp [Value.ownBlock] at ej
        · obtain rfl : g = j := by simpa [Value.ownBlock] using ej
          omega
    · have e1 : (x.val.op == 1) = false := beq_eq_false_iff_ne.2 h1
      have hsn : lays ((pre ++ [x]).map Subtype.val) = lays (pre.map Subtype.val) := by rw [lays_snoc, if_neg h1, List.append_nil]
      have HSN := Lib.hid hsn
      clear h1 hsn
      gi_wp2
      exact ⟨KeepsOthers.refl _, KpT.refl _ _, ⟨v, hv, by rw [HSN.out]; exact hrow, trivial⟩, hBw⟩
  case done =>
    rintro D ys W hD rfl ⟨⟨v, hv, hrow, _⟩, hBw⟩ hK
    have cB := hv.cell
    have hmap : (((⟨op, la, p', cap', A.er⟩ :: A.list).map fun x => (⟨x, trivial⟩ : LP))).map Subtype.val = ⟨op, la, p', cap', A.er⟩ :: A.list := by rw [List.map_map]; exact List.map_id'' (fun _ => rfl) _
    rw [hmap] at hrow
    have hll := lays_le (⟨op, la, p', cap', A.er⟩ :: A.list)
    have hLb := HL.out
    rw [List.length_map] at hLb
    have hws : w2.heap.size ≤ W.heap.size := by have := lt_of_block hK; omega
    have HON := Lib.hid (callsIn_wide (n := 4) |>.2 (once_any w2.heap.size v (lays (⟨op, la, p', cap', A.er⟩ :: A.list)) W hrow (by omega)))
    clear hll hLb hmap hrow
    gi_wp2
    refine ⟨trivial, HON.out.mono ?_⟩
    rintro e w3 ⟨p3, c3, rfl, hcells, hb3, hk3⟩
    have hK3 := hk3.same D _ hK rfl
    gi_wp2
    refine ⟨by simp, .inl ⟨_, _, rfl, run_takeDeferred hK3, ?_⟩⟩
    refine ⟨.tuple #[.slice p3 _ c3, .int .i64 0], by simp [results, Tryd.f18, go_sem]; rfl, A, p', cap', rfl, p3, c3, rfl, fun j x hx => ?_, ?_⟩
    · obtain ⟨b, e1, e2⟩ := hcells j x hx
      exact ⟨b, e1, cell_kept e2 (grownBy_putObj' _ D (.deferred none)) (fun r e => by cases e; exact ⟨_, hK3, rfl⟩)⟩
    · exact (hBw.trans ((hb3 hws).mono hsz2)).trans (belowK_b (w := w) (Nat.le_refl _) _ D _ _ (by omega) hK3 rfl rfl)
  case stop =>
    rintro D c pre W _ _ h _
    exact h.elim
#print axioms Layers_ok
end Go.Proofs.YthbkdbnalkeieaaDoor
