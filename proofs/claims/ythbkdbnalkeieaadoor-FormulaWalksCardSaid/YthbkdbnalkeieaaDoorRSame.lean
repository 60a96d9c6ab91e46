/- The walk of the reference's Same: are two formulas the same? -/
import Derived.Test.YthbkdbnalkeieaaDoorMem
import Derived.Deep.RegionHeld3
namespace Go.Proofs.YthbkdbnalkeieaaDoor
open Go.RowKit Go.Sort

def sameR : Fms → Fms → Bool
  | .nil, .nil => true
  | .cons op la of r, .cons op' la' of' r' => (decide (op = op') && (decide (la = la') && sameR of of')) && sameR r r'
  | _, _ => false
def sameF (op la : Int) (of : Fms) (op' la' : Int) (of' : Fms) : Bool := decide (op = op') && (decide (la = la') && sameR of of')
theorem sameR_iff : ∀ (F G : Fms), sameR F G = true ↔ F = G
  | .nil, .nil => by simp [sameR]
  | .nil, .cons _ _ _ _ => by simp [sameR]
  | .cons _ _ _ _, .nil => by simp [sameR]
  | .cons op la of r, .cons op' la' of' r' => by
    simp only [sameR, Bool.and_eq_true, decide_eq_true_eq, sameR_iff of of', sameR_iff r r', Fms.cons.injEq]
    constructor
    · rintro ⟨⟨h1, h2, h3⟩, h4⟩; exact ⟨h1, h2, h3, h4⟩
    · rintro ⟨h1, h2, h3, h4⟩; exact ⟨⟨h1, h2, h3⟩, h4⟩
theorem sameR_len : ∀ (F G : Fms), F.len ≠ G.len → sameR F G = false := fun F G h => by
  cases e : sameR F G with
  | false => rfl
  | true => exact absurd (congrArg Fms.len ((sameR_iff F G).1 e)) h
theorem sameF_iff (op la : Int) (of : Fms) (op' la' : Int) (of' : Fms) : sameF op la of op' la' of' = true ↔ op = op' ∧ la = la' ∧ of = of' := by
  simp [sameF, sameR_iff]

def RSameOk (op la : Int) (of : Fms) : Prop :=
  ∀ (op' la' : Int) (of' : Fms) (s s' : Value) (w : World), of.size < 1000000 → SlIs w s of → SlIs w s' of' →
    Calls Tryd.prog 13 #[.agg #[.int .i64 op, .int .i64 la, s], .agg #[.int .i64 op', .int .i64 la', s']] w fun e w' => e = .returned (.bool (sameF op la of op' la' of')) ∧ Below w.heap.size w w'

set_option maxHeartbeats 4000000 in
set_option maxRecDepth 100000 in
theorem rsame_step (op la : Int) (of : Fms) (IH : of.All RSameOk) : RSameOk op la of := by
  intro op' la' of' s s' w hsz hs hs'
  obtain ⟨p, cap, rfl⟩ := hs.slice
  obtain ⟨q, caq, rfl⟩ := hs'.slice
  obtain ⟨R, hR⟩ : ∃ R, R = sameF op la of op' la' of' := ⟨_, rfl⟩
  rw [← hR]
  obtain ⟨b0, hb0⟩ : ∃ b0, b0 = w.heap.size := ⟨_, rfl⟩
  obtain ⟨W, hW⟩ : ∃ W, W = (w.alloc (.cells #[.int .i64 op, .int .i64 la, .slice p of.len cap] 26)).alloc (.cells #[.int .i64 op', .int .i64 la', .slice q of'.len caq] 26) := ⟨_, rfl⟩
  have hB : Below b0 w W := by rw [hW, hb0]; exact ((Below.refl _ w).alloc (Nat.le_refl _) _).alloc (by simp) _
  have k1 : W.heap[b0]? = some (.cells #[In op, In la, .slice p of.len cap] 26 (0, 0)) := by rw [hW, hb0]; exact block_alloc_old _ (block_alloc_new w _)
  have k2 : W.heap[b0 + 1]? = some (.cells #[In op', In la', .slice q of'.len caq] 26 (0, 0)) := by
    have := block_alloc_new (w.alloc (.cells #[.int .i64 op, .int .i64 la, .slice p of.len cap] 26)) (.cells #[.int .i64 op', .int .i64 la', .slice q of'.len caq] 26)
    rw [World.size_alloc] at this
    rw [hW, hb0]
    exact this
  have HS := Lib.hid hs
  have HS' := Lib.hid hs'
  have HIH := Lib.hid IH
  have HR := Lib.hid hR
  have HB := Lib.hid hB
  have HK1 := Lib.hid k1
  have HK2 := Lib.hid k2
  have hlen := Fms.len_le_size of
  clear hs hs' IH hR hB k1 k2
  go_enter Tryd.func13, Tryd.ntmps13
  go_upto_region 1 with fail
  rw [← hW, ← hb0]
  have HB0 := Lib.hid hb0
  clear hW hb0
  have c0 := cell_of (o := 0) (v := In op) HK1.out rfl
  have c1 := cell_of (o := 1) (v := In la) HK1.out rfl
  have c2 := cell_of (o := 2) (v := .slice p of.len cap) HK1.out rfl
  have d0 := cell_of (o := 0) (v := In op') HK2.out rfl
  have d1 := cell_of (o := 1) (v := In la') HK2.out rfl
  have d2 := cell_of (o := 2) (v := .slice q of'.len caq) HK2.out rfl
  by_cases h1 : op = op'
  rotate_left
  · have e1 : (op != op') = true := by simp [h1]
    have hRf : R = false := by rw [HR.out]; simp [sameF, h1]
    have HRf := Lib.hid hRf
    clear h1 hRf
    go_wp2
    go_ret
    exact ⟨by rw [HRf.out]; rfl, by rw [← HB0.out]; exact HB.out⟩
  have e1 : (op != op') = false := by simp [h1]
  by_cases h2 : la = la'
  rotate_left
  · have e2 : (la != la') = true := by simp [h2]
    have hRf : R = false := by rw [HR.out]; simp [sameF, h2]
    have HRf := Lib.hid hRf
    clear h2 hRf
    have H1 := Lib.hid h1
    clear h1
    go_wp2
    go_ret
    exact ⟨by rw [HRf.out]; rfl, by rw [← HB0.out]; exact HB.out⟩
  have e2 : (la != la') = false := by simp [h2]
  have hRR : R = sameR of of' := by rw [HR.out]; simp [sameF, h1, h2]
  have HRR := Lib.hid hRR
  have H1 := Lib.hid h1
  have H2 := Lib.hid h2
  clear h1 h2 hRR HR
  by_cases h3 : of.len = of'.len
  rotate_left
  · have e3 : ((of.len : Int) != of'.len) = true := by simp; omega
    have hRf : R = false := by rw [HRR.out, sameR_len _ _ h3]
    have HRf := Lib.hid hRf
    clear hRf h3
    go_wp2
    go_ret
    exact ⟨by rw [HRf.out]; rfl, by rw [← HB0.out]; exact HB.out⟩
  have e3 : ((of.len : Int) != of'.len) = false := by simp; omega
  have H3 := Lib.hid h3
  clear h3
  go_wp2_with fail
  clear c0 c1 c2 d0 d1 d2 e1 e2 e3
  go_loopg [5] (of.len + 1) (fun gg s5 wr => ∃ i : Nat, s5 = .int .i64 i ∧ i ≤ of.len ∧ of.len + 1 ≤ gg + i ∧ Hid (Below b0 w wr) ∧ Hid (wr.heap[b0]? = some (.cells #[In op, In la, .slice p of.len cap] 26 (0, 0))) ∧ Hid (wr.heap[b0 + 1]? = some (.cells #[In op', In la', .slice q of'.len caq] 26 (0, 0))) ∧ Hid (R = sameR (of.drop i) (of'.drop i)))
  case atStart => exact ⟨0, rfl, Nat.zero_le _, by omega, HB, HK1, HK2, Lib.hid (by rw [HRR.out]; cases of <;> cases of' <;> rfl)⟩
  case round =>
    obtain ⟨i, rfl, hi, hgk, HBr, HKa, HKb, HRr⟩ := hrel
    clear HB HK1 HK2 HRR
    have c2 := cell_of (o := 2) (v := .slice p of.len cap) HKa.out rfl
    have d2 := cell_of (o := 2) (v := .slice q of'.len caq) HKb.out rfl
    have h3 := H3.out
    by_cases hlt : i < of.len
    · have hlt' : (i : Int) < (of.len : Int) := by omega
      have hltb : (i : Int) < (of'.len : Int) := by omega
      obtain ⟨xo, xl, xf, hget, hdrop⟩ := Fms.drop_get hlt
      obtain ⟨yo, yl, yf, hgetb, hdropb⟩ := Fms.drop_get (F := of') (i := i) (by omega)
      obtain ⟨b, off, rfl, hrow⟩ := HS.out.at hlt
      obtain ⟨g, goff, rfl, hrowb⟩ := HS'.out.at (i := i) (by omega)
      have hbw : Below w.heap.size w wr := by rw [← HB0.out]; exact HBr.out
      obtain ⟨xs, x0, x1, x2, hx⟩ := (hrow.later hbw).at hget
      obtain ⟨ys, y0, y1, y2, hy⟩ := (hrowb.later hbw).at hgetb
      obtain ⟨xp, xc, rfl⟩ := hx.slice
      obtain ⟨yp, yc, rfl⟩ := hy.slice
      have hRs : R = (sameF xo xl xf yo yl yf && sameR (of.drop (i + 1)) (of'.drop (i + 1))) := by rw [HRr.out, hdrop, hdropb]; rfl
      have hszx := Fms.size_get hget
      have HG := Lib.hid ((Fms.All.at HIH.out hget) yo yl yf (.slice xp xf.len xc) (.slice yp yf.len yc) wr.drew (by omega) (hx.later (Below.refl _ wr).drew) (hy.later (Below.refl _ wr).drew))
      obtain ⟨T, hT⟩ : ∃ T, T = sameF xo xl xf yo yl yf := ⟨_, rfl⟩
      rw [← hT] at hRs HG
      have HRs := Lib.hid hRs
      have HBD := Lib.hid (show Below wr.heap.size wr wr.drew from (Below.refl _ wr).drew)
      have hka := HKa.out
      have hkb := HKb.out
      have HKP := Lib.hid (show ∀ X, Below wr.heap.size wr X → (X.cell? ⟨b0, 2, none⟩ = some (.slice (some ⟨b, off, none⟩) of.len cap) ∧ X.cell? ⟨b0 + 1, 2, none⟩ = some (.slice (some ⟨g, goff, none⟩) of'.len caq)) ∧
          (X.cell? ⟨b, off + i * 3, none⟩ = some (In xo) ∧ X.cell? ⟨b, off + i * 3 + 1, none⟩ = some (In xl) ∧ X.cell? ⟨b, off + i * 3 + 2, none⟩ = some (.slice xp xf.len xc)) ∧
          (X.cell? ⟨g, goff + i * 3, none⟩ = some (In yo) ∧ X.cell? ⟨g, goff + i * 3 + 1, none⟩ = some (In yl) ∧ X.cell? ⟨g, goff + i * 3 + 2, none⟩ = some (.slice yp yf.len yc)) from fun X h =>
        have k : ∀ {p : Addr} {v : Value}, wr.cell? p = some v → X.cell? p = some v := fun e => (h.cell (World.block_lt_of_cell? wr _ e)).trans e
        ⟨⟨k (cell_of hka rfl), k (cell_of hkb rfl)⟩, ⟨k x0, k x1, k x2⟩, ⟨k y0, k y1, k y2⟩⟩)
      clear hdrop hdropb hget hgetb hrow hrowb hbw hx hy hRs hT hka hkb x0 x1 x2 y0 y1 y2 h3
      go_upto_region 6 with fail
      clear c2 d2
      go_region_held3 (fun X => (X.cell? ⟨b0, 2, none⟩ = some (.slice (some ⟨b, off, none⟩) of.len cap) ∧ X.cell? ⟨b0 + 1, 2, none⟩ = some (.slice (some ⟨g, goff, none⟩) of'.len caq)) ∧
          (X.cell? ⟨b, off + i * 3, none⟩ = some (In xo) ∧ X.cell? ⟨b, off + i * 3 + 1, none⟩ = some (In xl) ∧ X.cell? ⟨b, off + i * 3 + 2, none⟩ = some (.slice xp xf.len xc)) ∧
          (X.cell? ⟨g, goff + i * 3, none⟩ = some (In yo) ∧ X.cell? ⟨g, goff + i * 3 + 1, none⟩ = some (In yl) ∧ X.cell? ⟨g, goff + i * 3 + 2, none⟩ = some (.slice yp yf.len yc)))
        (first | exact HKP.out _ HBD.out | exact HKP.out _ hbm)
        ((go_at_call 13; refine HG.out.mono ?_; rintro e wm ⟨rfl, hbh⟩; have hbm := HBD.out.trans (hbh.mono HBD.out.size)))
      have hsb : b0 ≤ wr.heap.size := by rw [HB0.out]; exact HBr.out.size
      have HBm := Lib.hid (HBr.out.trans (hbm.mono hsb))
      have HKa2 := Lib.hid ((hbm.block b0 (lt_of_block HKa.out)).trans HKa.out)
      have HKb2 := Lib.hid ((hbm.block (b0 + 1) (lt_of_block HKb.out)).trans HKb.out)
      clear hbm hbh HG HKP
      cases T with
      | true =>
        have HR2 := Lib.hid (show R = sameR (of.drop (i + 1)) (of'.drop (i + 1)) by rw [HRs.out]; rfl)
        go_wp2
        go_roundg (of.len - i)
        case measure => omega
        case rel => exact ⟨i + 1, by simp, by omega, by omega, HBm, HKa2, HKb2, HR2⟩
      | false =>
        have HR2 := Lib.hid (show R = false by rw [HRs.out]; rfl)
        go_wp2
        go_ret
        exact ⟨by rw [HR2.out]; rfl, by rw [← HB0.out]; exact HBm.out⟩
    · obtain rfl : i = of.len := by omega
      have HR2 := Lib.hid (show R = true by rw [HRr.out]; have e := Fms.drop_len of'; rw [← h3] at e; rw [e, Fms.drop_len]; rfl)
      clear h3
      go_wp2
      go_ret
      exact ⟨by rw [HR2.out]; rfl, by rw [← HB0.out]; exact HBr.out⟩

theorem rsame_any (op la : Int) (of : Fms) : RSameOk op la of := rsame_step op la of (Fms.all_of rsame_step of)
#print axioms rsame_any
end Go.Proofs.YthbkdbnalkeieaaDoor
