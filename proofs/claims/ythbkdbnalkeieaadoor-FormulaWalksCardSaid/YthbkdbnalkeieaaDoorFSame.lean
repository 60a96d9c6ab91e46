/- The walks of slices.EqualFunc over formulas, same, Same. -/
import Derived.Test.YthbkdbnalkeieaaDoorRSame
import Derived.Test.YthbkdbnalkeieaaDoorCheck
namespace Go.Proofs.YthbkdbnalkeieaaDoor
open Go.RowKit Go.Sort

def FSameOk (op la : Int) (of : Fms) : Prop :=
  ∀ (op' la' : Int) (of' : Fms) (s s' : Value) (w : World), of.size < 1000000 → SlIs w s of → SlIs w s' of' →
    Calls Tryd.prog 42 #[.agg #[.int .i64 op, .int .i64 la, s], .agg #[.int .i64 op', .int .i64 la', s']] w fun e w' => e = .returned (.bool (sameF op la of op' la' of')) ∧ Below w.heap.size w w'

set_option maxHeartbeats 4000000 in
set_option maxRecDepth 100000 in
theorem equal_any (F G : Fms) (IH : F.All FSameOk) (s s' : Value) (w : World) (hsz : F.size < 1000000) (hs : SlIs w s F) (hs' : SlIs w s' G) :
    Calls Tryd.prog 58 #[s, s', .func (.func 42) #[] #[]] w fun e w' => e = .returned (.bool (sameR F G)) ∧ Below w.heap.size w w' := by
  obtain ⟨p, cap, rfl⟩ := hs.slice
  obtain ⟨q, caq, rfl⟩ := hs'.slice
  obtain ⟨R, hR⟩ : ∃ R, R = sameR F G := ⟨_, rfl⟩
  rw [← hR]
  have hen : ∀ args w, (callFunc 42 args).run Tryd.prog w = .ok (.enter 42 args) w := enters_of Tryd.func42 (by kernel_rfl) rfl
  have hlen := Fms.len_le_size F
  by_cases h3 : F.len = G.len
  rotate_left
  · have e3 : ((F.len : Int) != G.len) = true := by simp; omega
    have hRf : R = false := by rw [hR, sameR_len _ _ h3]
    have HRf := Lib.hid hRf
    clear hRf h3 hs hs' IH hR hen
    go_enter Tryd.func58, Tryd.ntmps58
    go_wp2
    go_ret
    exact ⟨by rw [HRf.out]; rfl, Below.refl _ _⟩
  have e3 : ((F.len : Int) != G.len) = false := by simp; omega
  have HS := Lib.hid hs
  have HS' := Lib.hid hs'
  have HIH := Lib.hid IH
  have HR := Lib.hid hR
  have H3 := Lib.hid h3
  clear hs hs' IH hR h3
  go_enter Tryd.func58, Tryd.ntmps58
  go_wp2_with fail
  clear e3
  go_loopg [17] (F.len + 1) (fun gg s17 wr => ∃ i : Nat, s17 = .int .i64 i ∧ i ≤ F.len ∧ F.len + 1 ≤ gg + i ∧ Hid (Below w.heap.size w wr) ∧ Hid (R = sameR (F.drop i) (G.drop i)))
  case atStart => exact ⟨0, rfl, Nat.zero_le _, by omega, Lib.hid (Below.refl _ _), Lib.hid (by rw [HR.out]; cases F <;> cases G <;> rfl)⟩
  case round =>
    obtain ⟨i, rfl, hi, hgk, HBr, HRr⟩ := hrel
    clear HR
    have h3 := H3.out
    by_cases hlt : i < F.len
    · have hlt' : (i : Int) < (F.len : Int) := by omega
      have hltb : (i : Int) < (G.len : Int) := by omega
      obtain ⟨xo, xl, xf, hget, hdrop⟩ := Fms.drop_get hlt
      obtain ⟨yo, yl, yf, hgetb, hdropb⟩ := Fms.drop_get (F := G) (i := i) (by omega)
      obtain ⟨b, off, rfl, hrow⟩ := HS.out.at hlt
      obtain ⟨g, goff, rfl, hrowb⟩ := HS'.out.at (i := i) (by omega)
      have hbw : Below w.heap.size w wr := HBr.out
      obtain ⟨xs, x0, x1, x2, hx⟩ := (hrow.later hbw).at hget
      obtain ⟨ys, y0, y1, y2, hy⟩ := (hrowb.later hbw).at hgetb
      obtain ⟨xp, xc, rfl⟩ := hx.slice
      obtain ⟨yp, yc, rfl⟩ := hy.slice
      have hRs : R = (sameF xo xl xf yo yl yf && sameR (F.drop (i + 1)) (G.drop (i + 1))) := by rw [HRr.out, hdrop, hdropb]; rfl
      have hszx := Fms.size_get hget
      have HG := Lib.hid (fun W (hW : Below wr.heap.size wr W) => (Fms.All.at HIH.out hget) yo yl yf (.slice xp xf.len xc) (.slice yp yf.len yc) W (by omega) (hx.later hW) (hy.later hW))
      obtain ⟨T, hT⟩ : ∃ T, T = sameF xo xl xf yo yl yf := ⟨_, rfl⟩
      rw [← hT] at hRs HG
      have HRs := Lib.hid hRs
      obtain ⟨V1, hV1⟩ : ∃ V, V = wr.alloc (.cells #[.int .i64 xo, .int .i64 xl, .slice xp xf.len xc] 26) := ⟨_, rfl⟩
      have hb1 : Below wr.heap.size wr V1 := by rw [hV1]; exact (Below.refl _ wr).alloc (Nat.le_refl _) _
      have k1 : V1.heap[wr.heap.size]? = some (.cells #[.int .i64 xo, .int .i64 xl, .slice xp xf.len xc] 26 (0, 0)) := by rw [hV1]; exact block_alloc_new wr _
      obtain ⟨n1, hn1⟩ : ∃ n, n = V1.heap.size := ⟨_, rfl⟩
      obtain ⟨V2, hV2⟩ : ∃ V, V = V1.alloc (.cells #[.int .i64 yo, .int .i64 yl, .slice yp yf.len yc] 26) := ⟨_, rfl⟩
      have hb2 : Below wr.heap.size wr V2 := by rw [hV2]; exact hb1.alloc hb1.size _
      have k2 : V2.heap[n1]? = some (.cells #[.int .i64 yo, .int .i64 yl, .slice yp yf.len yc] 26 (0, 0)) := by rw [hV2, hn1]; exact block_alloc_new V1 _
      have k1' : V2.heap[wr.heap.size]? = some (.cells #[.int .i64 xo, .int .i64 xl, .slice xp xf.len xc] 26 (0, 0)) := by rw [hV2]; exact block_alloc_old _ k1
      have y0' := (hb1.cell (World.block_lt_of_cell? wr _ y0)).trans y0
      have y1' := (hb1.cell (World.block_lt_of_cell? wr _ y1)).trans y1
      have y2' := (hb1.cell (World.block_lt_of_cell? wr _ y2)).trans y2
      have HB2 := Lib.hid hb2
      have K1 := Lib.hid k1'
      have K2 := Lib.hid k2
      clear hdrop hdropb hget hgetb hrow hrowb hbw hx hy hRs hT y0 y1 y2 h3 hb1 k1 hb2 k2 k1'
      go_upto_region 6 with fail
      rw [← hV1]
      clear hV1
      go_upto_region 7 with fail
      rw [← hV2, ← hn1]
      clear hV2 hn1
      have u0 := cell_of (o := 0) (v := .int .i64 xo) K1.out rfl
      have u1 := cell_of (o := 1) (v := .int .i64 xl) K1.out rfl
      have u2 := cell_of (o := 2) (v := .slice xp xf.len xc) K1.out rfl
      have v0 := cell_of (o := 0) (v := .int .i64 yo) K2.out rfl
      have v1 := cell_of (o := 1) (v := .int .i64 yl) K2.out rfl
      have v2 := cell_of (o := 2) (v := .slice yp yf.len yc) K2.out rfl
      go_wp2_with fail
      refine (HG.out V2 HB2.out).mono ?_
      rintro e wm ⟨rfl, hbm⟩
      have hbz := HB2.out.trans (hbm.mono HB2.out.size)
      have HBm := Lib.hid (HBr.out.trans (hbz.mono HBr.out.size))
      clear hbm hbz HG u0 u1 u2 v0 v1 v2 y0' y1' y2'
      cases T with
      | true =>
        have HR2 := Lib.hid (show R = sameR (F.drop (i + 1)) (G.drop (i + 1)) by rw [HRs.out]; rfl)
        go_wp2
        go_roundg (F.len - i)
        case measure => omega
        case rel => exact ⟨i + 1, by simp, by omega, by omega, HBm, HR2⟩
      | false =>
        have HR2 := Lib.hid (show R = false by rw [HRs.out]; rfl)
        go_wp2
        go_ret
        exact ⟨by rw [HR2.out]; rfl, HBm.out⟩
    · obtain rfl : i = F.len := by omega
      have HR2 := Lib.hid (show R = true by rw [HRr.out]; have e := Fms.drop_len G; rw [← h3] at e; rw [e, Fms.drop_len]; rfl)
      clear h3
      go_wp2
      go_ret
      exact ⟨by rw [HR2.out]; rfl, HBr.out⟩

set_option maxHeartbeats 4000000 in
set_option maxRecDepth 100000 in
theorem fsame_step (op la : Int) (of : Fms) (IH : of.All FSameOk) : FSameOk op la of := by
  intro op' la' of' s s' w hsz hs hs'
  have hE := fun V (hV : Below w.heap.size w V) => equal_any of of' IH s s' V hsz (hs.later hV) (hs'.later hV)
  obtain ⟨p, cap, rfl⟩ := hs.slice
  obtain ⟨q, caq, rfl⟩ := hs'.slice
  obtain ⟨R, hR⟩ : ∃ R, R = sameF op la of op' la' of' := ⟨_, rfl⟩
  rw [← hR]
  obtain ⟨b0, hb0⟩ : ∃ b0, b0 = w.heap.size := ⟨_, rfl⟩
  obtain ⟨W, hW⟩ : ∃ W, W = (w.alloc (.cells #[.int .i64 op, .int .i64 la, .slice p of.len cap] 26)).alloc (.cells #[.int .i64 op', .int .i64 la', .slice q of'.len caq] 26) := ⟨_, rfl⟩
  have hB : Below w.heap.size w W := by rw [hW]; exact ((Below.refl _ w).alloc (Nat.le_refl _) _).alloc (by simp) _
  have k1 : W.heap[b0]? = some (.cells #[In op, In la, .slice p of.len cap] 26 (0, 0)) := by rw [hW, hb0]; exact block_alloc_old _ (block_alloc_new w _)
  have k2 : W.heap[b0 + 1]? = some (.cells #[In op', In la', .slice q of'.len caq] 26 (0, 0)) := by
    have := block_alloc_new (w.alloc (.cells #[.int .i64 op, .int .i64 la, .slice p of.len cap] 26)) (.cells #[.int .i64 op', .int .i64 la', .slice q of'.len caq] 26)
    rw [World.size_alloc] at this
    rw [hW, hb0]
    exact this
  have HE := Lib.hid (hE W hB)
  have HR := Lib.hid hR
  have HB := Lib.hid hB
  have HK1 := Lib.hid k1
  have HK2 := Lib.hid k2
  clear hs hs' IH hR hB k1 k2 hE
  go_enter Tryd.func42, Tryd.ntmps42
  go_upto_region 1 with fail
  rw [← hW, ← hb0]
  have HB0 := Lib.hid hb0
  clear hW hb0
  have c0 := cell_of (o := 0) (v := In op) HK1.out rfl
  have c1 := cell_of (o := 1) (v := In la) HK1.out rfl
  have c2 := cell_of (o := 2) (v := .slice p of.len cap) HK1.out rfl
  have d0 := cell_of (o := 0) (v := In op') HK2.out rfl
  have d1 := cell_of (o := 1) (v := In la') HK2.out rfl
  have d2 := cell_of (o := 2) (v := .slice q of'.len caq) HK2.out rfl
  by_cases h1 : op = op'
  rotate_left
  · have e1 : (op == op') = false := by simp [h1]
    have hRf : R = false := by rw [HR.out]; simp [sameF, h1]
    have HRf := Lib.hid hRf
    clear h1 hRf
    go_wp2
    go_ret
    exact ⟨by rw [HRf.out]; rfl, HB.out⟩
  have e1 : (op == op') = true := by simp [h1]
  by_cases h2 : la = la'
  rotate_left
  · have e2 : (la == la') = false := by simp [h2]
    have hRf : R = false := by rw [HR.out]; simp [sameF, h2]
    have HRf := Lib.hid hRf
    clear h2 hRf
    have H1 := Lib.hid h1
    clear h1
    go_wp2
    go_ret
    exact ⟨by rw [HRf.out]; rfl, HB.out⟩
  have e2 : (la == la') = true := by simp [h2]
  have hRR : R = sameR of of' := by rw [HR.out]; simp [sameF, h1, h2]
  have HRR := Lib.hid hRR
  have H1 := Lib.hid h1
  have H2 := Lib.hid h2
  clear h1 h2 hRR HR
  go_wp2_with fail
  refine HE.out.mono ?_
  rintro e w1 ⟨rfl, hb1⟩
  have HB1 := Lib.hid (HB.out.trans (hb1.mono HB.out.size))
  clear hb1
  go_wp2
  go_ret
  exact ⟨by rw [HRR.out]; rfl, HB1.out⟩
theorem fsame_any (op la : Int) (of : Fms) : FSameOk op la of := fsame_step op la of (Fms.all_of fsame_step of)

/-- What Same answers. -/
def sameE (op la : Int) (of : Fms) (op' la' : Int) (of' : Fms) : Bool := decide (chk op la of = 0) && (decide (chk op' la' of' = 0) && sameF op la of op' la' of')

set_option maxHeartbeats 4000000 in
set_option maxRecDepth 100000 in
theorem Same_any (op la : Int) (of : Fms) (op' la' : Int) (of' : Fms) (s s' : Value) (w : World) (hsz : of.size < 1000000) (hsz' : of'.size < 1000000) (hs : SlIs w s of) (hs' : SlIs w s' of') :
    Calls Tryd.prog 23 #[.agg #[.int .i64 op, .int .i64 la, s], .agg #[.int .i64 op', .int .i64 la', s']] w fun e w' => e = .returned (.bool (sameE op la of op' la' of')) ∧ Below w.heap.size w w' := by
  have hE := fun V (hV : Below w.heap.size w V) => fsame_any op la of op' la' of' s s' V hsz (hs.later hV) (hs'.later hV)
  have hC1 := fun V (hV : Below w.heap.size w V) => check_any op la of s V (by omega) (hs.later hV)
  have hC2 := fun V (hV : Below w.heap.size w V) => check_any op' la' of' s' V (by omega) (hs'.later hV)
  obtain ⟨p, cap, rfl⟩ := hs.slice
  obtain ⟨q, caq, rfl⟩ := hs'.slice
  obtain ⟨R, hR⟩ : ∃ R, R = sameE op la of op' la' of' := ⟨_, rfl⟩
  rw [← hR]
  obtain ⟨b0, hb0⟩ : ∃ b0, b0 = w.heap.size := ⟨_, rfl⟩
  obtain ⟨W, hW⟩ : ∃ W, W = (w.alloc (.cells #[.int .i64 op, .int .i64 la, .slice p of.len cap] 26)).alloc (.cells #[.int .i64 op', .int .i64 la', .slice q of'.len caq] 26) := ⟨_, rfl⟩
  have hB : Below w.heap.size w W := by rw [hW]; exact ((Below.refl _ w).alloc (Nat.le_refl _) _).alloc (by simp) _
  have k1 : W.heap[b0]? = some (.cells #[In op, In la, .slice p of.len cap] 26 (0, 0)) := by rw [hW, hb0]; exact block_alloc_old _ (block_alloc_new w _)
  have k2 : W.heap[b0 + 1]? = some (.cells #[In op', In la', .slice q of'.len caq] 26 (0, 0)) := by
    have := block_alloc_new (w.alloc (.cells #[.int .i64 op, .int .i64 la, .slice p of.len cap] 26)) (.cells #[.int .i64 op', .int .i64 la', .slice q of'.len caq] 26)
    rw [World.size_alloc] at this
    rw [hW, hb0]
    exact this
  have HE := Lib.hid hE
  have HC1 := Lib.hid hC1
  have HC2 := Lib.hid hC2
  have HR := Lib.hid hR
  have HB := Lib.hid hB
  have HK1 := Lib.hid k1
  have HK2 := Lib.hid k2
  clear hs hs' hR hB k1 k2 hE hC1 hC2
  go_enter Tryd.func23, Tryd.ntmps23
  go_upto_region 1 with fail
  rw [← hW, ← hb0]
  clear hW hb0
  have c0 := cell_of (o := 0) (v := In op) HK1.out rfl
  have c1 := cell_of (o := 1) (v := In la) HK1.out rfl
  have c2 := cell_of (o := 2) (v := .slice p of.len cap) HK1.out rfl
  go_wp2_with fail
  refine (HC1.out W HB.out).mono ?_
  rintro e w1 ⟨rfl, hb1⟩
  have HB1 := Lib.hid (HB.out.trans (hb1.mono HB.out.size))
  have k1 := (hb1.block b0 (lt_of_block HK1.out)).trans HK1.out
  have k2 := (hb1.block (b0 + 1) (lt_of_block HK2.out)).trans HK2.out
  have HK1 := Lib.hid k1
  have HK2 := Lib.hid k2
  clear hb1 c0 c1 c2 k1 k2
  by_cases h1 : chk op la of = 0
  rotate_left
  · have e1 : (chk op la of == 0) = false := by simp [h1]
    have hRf : R = false := by rw [HR.out]; simp [sameE, h1]
    have HRf := Lib.hid hRf
    clear h1 hRf
    go_wp2
    go_ret
    exact ⟨by rw [HRf.out]; rfl, HB1.out⟩
  have e1 : (chk op la of == 0) = true := by simp [h1]
  have d0 := cell_of (o := 0) (v := In op') HK2.out rfl
  have d1 := cell_of (o := 1) (v := In la') HK2.out rfl
  have d2 := cell_of (o := 2) (v := .slice q of'.len caq) HK2.out rfl
  have HH1 := Lib.hid h1
  clear h1
  go_wp2_with fail
  refine (HC2.out _ HB1.out).mono ?_
  rintro e w2 ⟨rfl, hb2⟩
  have HB2 := Lib.hid (HB1.out.trans (hb2.mono HB1.out.size))
  have k1 := (hb2.block b0 (lt_of_block HK1.out)).trans HK1.out
  have k2 := (hb2.block (b0 + 1) (lt_of_block HK2.out)).trans HK2.out
  have HK1 := Lib.hid k1
  have HK2 := Lib.hid k2
  clear hb2 d0 d1 d2 k1 k2
  by_cases h2 : chk op' la' of' = 0
  rotate_left
  · have e2 : (chk op' la' of' == 0) = false := by simp [h2]
    have hRf : R = false := by rw [HR.out]; simp [sameE, h2]
    have HRf := Lib.hid hRf
    clear h2 hRf
    go_wp2
    go_ret
    exact ⟨by rw [HRf.out]; rfl, HB2.out⟩
  have e2 : (chk op' la' of' == 0) = true := by simp [h2]
  have c0 := cell_of (o := 0) (v := In op) HK1.out rfl
  have c1 := cell_of (o := 1) (v := In la) HK1.out rfl
  have c2 := cell_of (o := 2) (v := .slice p of.len cap) HK1.out rfl
  have d0 := cell_of (o := 0) (v := In op') HK2.out rfl
  have d1 := cell_of (o := 1) (v := In la') HK2.out rfl
  have d2 := cell_of (o := 2) (v := .slice q of'.len caq) HK2.out rfl
  have hRR : R = sameF op la of op' la' of' := by rw [HR.out]; simp [sameE, HH1.out, h2]
  have HRR := Lib.hid hRR
  clear h2 hRR
  go_wp2_with fail
  refine (HE.out _ HB2.out).mono ?_
  rintro e w3 ⟨rfl, hb3⟩
  have HB3 := Lib.hid (HB2.out.trans (hb3.mono HB2.out.size))
  clear hb3
  go_wp2
  go_ret
  exact ⟨by rw [HRR.out]; rfl, HB3.out⟩
#print axioms Same_any
end Go.Proofs.YthbkdbnalkeieaaDoor
