/- The walks of the reference's Flaws and Check. -/
import Derived.Test.YthbkdbnalkeieaaDoorMeas
import Derived.BigRegion
import Derived.BigQuiet
namespace Go.Proofs.YthbkdbnalkeieaaDoor
open Go.RowKit Go.Sort

def flR : Fms → Bool → Int → Int → Bool × Int × Int
  | .nil, f, d, n => (f, d, n)
  | .cons op la of r, f, d, n => flR r (f && (flR of (decide (fine op la of.len)) 0 1).1) (max d ((flR of (decide (fine op la of.len)) 0 1).2.1 + 1)) (n + (flR of (decide (fine op la of.len)) 0 1).2.2)
def flF (op la : Int) (of : Fms) : Bool × Int × Int := ((flR of (decide (fine op la of.len)) 0 1).1, (flR of (decide (fine op la of.len)) 0 1).2.1 + 1, (flR of (decide (fine op la of.len)) 0 1).2.2)
theorem flR_cons (op la : Int) (of r : Fms) (f : Bool) (d n : Int) : flR (.cons op la of r) f d n = flR r (f && (flF op la of).1) (max d (flF op la of).2.1) (n + (flF op la of).2.2) := rfl

theorem flR_is : ∀ (F : Fms) (f : Bool) (d n : Int), ((flR F f d n).1 = true → f = true ∧ foldM F d n = some (flR F f d n).2) ∧ ((flR F f d n).1 = false → f = false ∨ foldM F d n = none)
  | .nil, f, d, n => by simp [flR, foldM]
  | .cons op la of r, f, d, n => by
    have h1 := flR_is of (decide (fine op la of.len)) 0 1
    have h2 := flR_is r (f && (flF op la of).1) (max d (flF op la of).2.1) (n + (flF op la of).2.2)
    rw [flR_cons, foldM_cons]
    have hm : ((flF op la of).1 = true → meas op la of = some (flF op la of).2) ∧ ((flF op la of).1 = false → meas op la of = none) := by
      constructor
      · intro e
        obtain ⟨g1, g2⟩ := h1.1 e
        unfold meas
        rw [if_pos (of_decide_eq_true g1), g2]
        rfl
      · intro e
        unfold meas
        rcases h1.2 e with g | g
        · rw [if_neg (of_decide_eq_false g)]
        · rw [g]
          split <;> rfl
    constructor
    · intro e
      obtain ⟨g1, g2⟩ := h2.1 e
      rw [Bool.and_eq_true] at g1
      rw [hm.1 g1.2]
      exact ⟨g1.1, g2⟩
    · intro e
      cases hx : (flF op la of).1 with
      | false => right; rw [hm.2 hx]
      | true =>
        rcases h2.2 e with g | g
        · left; rw [hx, Bool.and_true] at g; exact g
        · right; rw [hm.1 hx]; exact g
theorem flF_is (op la : Int) (of : Fms) : ((flF op la of).1 = true → meas op la of = some (flF op la of).2) ∧ ((flF op la of).1 = false → meas op la of = none) := by
  have h1 := flR_is of (decide (fine op la of.len)) 0 1
  constructor
  · intro e
    obtain ⟨g1, g2⟩ := h1.1 e
    unfold meas
    rw [if_pos (of_decide_eq_true g1), g2]
    rfl
  · intro e
    unfold meas
    rcases h1.2 e with g | g
    · rw [if_neg (of_decide_eq_false g)]
    · rw [g]
      split <;> rfl
theorem flR_bound : ∀ (F : Fms) (f : Bool) (d n : Int), d ≤ (flR F f d n).2.1 ∧ (flR F f d n).2.1 ≤ max d F.size ∧ n ≤ (flR F f d n).2.2 ∧ (flR F f d n).2.2 ≤ n + F.size
  | .nil, f, d, n => by simp [flR, Fms.size]; omega
  | .cons op la of r, f, d, n => by
    have h1 := flR_bound of (decide (fine op la of.len)) 0 1
    have h2 := flR_bound r (f && (flF op la of).1) (max d (flF op la of).2.1) (n + (flF op la of).2.2)
    rw [flR_cons]
    simp only [Fms.size]
    simp only [flF] at h2 ⊢
    omega
theorem flF_bound (op la : Int) (of : Fms) : 1 ≤ (flF op la of).2.1 ∧ (flF op la of).2.1 ≤ of.size + 1 ∧ 1 ≤ (flF op la of).2.2 ∧ (flF op la of).2.2 ≤ of.size + 1 := by
  have h1 := flR_bound of (decide (fine op la of.len)) 0 1
  simp only [flF]
  omega

def FlawsOk (op la : Int) (of : Fms) : Prop :=
  ∀ (s : Value) (w : World), of.size < 1000000 → SlIs w s of → Calls Tryd.prog 36 #[.agg #[.int .i64 op, .int .i64 la, s]] w fun e w' => e = .returned (.tuple #[.bool (flF op la of).1, .int .i64 (flF op la of).2.1, .int .i64 (flF op la of).2.2]) ∧ Below w.heap.size w w'

theorem need_at (k : Nat) (h1 : 1 ≤ k) (h6 : k ≤ 6) : (#[In (-1), In 0, In 1, In 2, In 2, In 2, In 2] : Array Value)[k]? = some (In (needs k)) := by
  rcases (by omega : k = 1 ∨ k = 2 ∨ k = 3 ∨ k = 4 ∨ k = 5 ∨ k = 6) with rfl | rfl | rfl | rfl | rfl | rfl <;> rfl

/-- The ways through the test. -/
theorem test_ways (op la : Int) (n : Nat) :
    (fine op la n ∧ 1 ≤ op ∧ op ≤ 6 ∧ (n : Int) = needs op ∧ 0 ≤ la ∧ la < 16 ∧ (op = 1 ∨ (op ≠ 1 ∧ la = 0))) ∨
    (¬ fine op la n ∧ (op < 1 ∨ (1 ≤ op ∧ 6 < op) ∨ (1 ≤ op ∧ op ≤ 6 ∧ (n : Int) ≠ needs op) ∨ (1 ≤ op ∧ op ≤ 6 ∧ (n : Int) = needs op ∧ la < 0) ∨ (1 ≤ op ∧ op ≤ 6 ∧ (n : Int) = needs op ∧ 0 ≤ la ∧ 16 ≤ la) ∨
      (1 ≤ op ∧ op ≤ 6 ∧ (n : Int) = needs op ∧ 0 ≤ la ∧ la < 16 ∧ op ≠ 1 ∧ la ≠ 0))) := by
  have hn : fine op la n → 1 ≤ op ∧ op ≤ 6 := by
    rintro ⟨h, _⟩
    unfold needs at h
    split at h
    · omega
    · split at h
      · omega
      · split at h
        · omega
        · omega
  by_cases hf : fine op la n
  · left
    have := hn hf
    obtain ⟨h1, h2, h3, h4⟩ := hf
    refine ⟨⟨h1, h2, h3, h4⟩, this.1, this.2, h1, h2, h3, ?_⟩
    omega
  · right
    refine ⟨hf, ?_⟩
    by_cases a : 1 ≤ op <;> by_cases b : op ≤ 6 <;> by_cases c : (n : Int) = needs op <;> by_cases d : 0 ≤ la <;> by_cases e : la < 16 <;> by_cases f : op = 1 <;> by_cases g : la = 0
    all_goals first | (exfalso; exact hf ⟨c, d, e, .inl f⟩) | (exfalso; exact hf ⟨c, d, e, .inr g⟩) | omega

set_option maxHeartbeats 4000000 in
set_option maxRecDepth 100000 in
theorem flaws_step (op la : Int) (of : Fms) (IH : of.All FlawsOk) : FlawsOk op la of := by
  intro s w hsz hs
  obtain ⟨p, cap, rfl⟩ := hs.slice
  obtain ⟨b0, hb0⟩ : ∃ b0, b0 = w.heap.size := ⟨_, rfl⟩
  obtain ⟨W, hW⟩ : ∃ W, W = (w.alloc (.cells #[.int .i64 op, .int .i64 la, .slice p of.len cap] 26)).alloc (.cells #[In (-1), In 0, In 1, In 2, In 2, In 2, In 2] 3) := ⟨_, rfl⟩
  have hB : Below b0 w W := by rw [hW, hb0]; exact ((Below.refl _ w).alloc (Nat.le_refl _) _).alloc (by simp) _
  have k1 : W.heap[b0]? = some (.cells #[In op, In la, .slice p of.len cap] 26 (0, 0)) := by rw [hW, hb0]; exact block_alloc_old _ (block_alloc_new w _)
  have k2 : W.heap[b0 + 1]? = some (.cells #[In (-1), In 0, In 1, In 2, In 2, In 2, In 2] 3 (0, 0)) := by
    have := block_alloc_new (w.alloc (.cells #[.int .i64 op, .int .i64 la, .slice p of.len cap] 26)) (.cells #[In (-1), In 0, In 1, In 2, In 2, In 2, In 2] 3)
    rw [World.size_alloc] at this
    rw [hW, hb0]
    exact this
  have HS := Lib.hid hs
  have HIH := Lib.hid IH
  have HB := Lib.hid hB
  have HK1 := Lib.hid k1
  have HK2 := Lib.hid k2
  have hlen := Fms.len_le_size of
  clear hs IH hB k1 k2
  go_enter Tryd.func36, Tryd.ntmps36
  go_upto_region 3 with fail
  rw [← hb0]
  rw [← hW]
  have HB0 := Lib.hid hb0
  clear hW hb0
  obtain ⟨B, hBB0⟩ : ∃ B, B = decide (fine op la of.len) := ⟨_, rfl⟩
  have HBB := Lib.hid hBB0
  clear hBB0
  go_cut [7] from 17 to 53 (fun s7 wx => s7 = .bool B ∧ ∃ q : Nat, wx = W.drewN q)
  case first =>
    have c0 := cell_of (o := 0) (v := In op) HK1.out rfl
    have c1 := cell_of (o := 1) (v := In la) HK1.out rfl
    have c2 := cell_of (o := 2) (v := .slice p of.len cap) HK1.out rfl
    have hBB := HBB.out
    clear HBB
    have hall : ∀ k : Nat, 1 ≤ k → k ≤ 6 → W.cell? ⟨b0 + 1, k, none⟩ = some (In (needs k)) := fun k h1 h6 => cell_of HK2.out (need_at k h1 h6)
    rcases test_ways op la of.len with ⟨hf, h1, h6, h3, h4, h5, h7⟩ | ⟨hf, h⟩
    · have hB1 : B = true := by rw [hBB]; exact decide_eq_true hf
      subst hB1
      obtain ⟨k, rfl⟩ : ∃ k : Nat, op = k := ⟨op.toNat, by omega⟩
      have n0 := hall k (by omega) (by omega)
      have em : min (6 : Int) k = k := by omega
      have ex : max (0 : Int) k = k := by omega
      have eb : (k : Int) < 7 := by omega
      have ec : (0 : Int) ≤ k := by omega
      have e3 : ((of.len : Int) == needs k) = true := by simp [h3]
      clear h3 hf hBB hall
      rcases h7 with h7 | ⟨h7, h8⟩
      · have e7 : ((k : Int) == 1) = true := by simp [h7]
        clear h7
        go_quiet (fail)
        go_wp2_with fail
        go_meet
        exact ⟨rfl, _, rfl⟩
      · have e7 : ((k : Int) == 1) = false := by simp; omega
        have e8 : (la == 0) = true := by simp [h8]
        clear h7 h8
        go_quiet (fail)
        go_wp2_with fail
        go_meet
        exact ⟨rfl, _, rfl⟩
    · have hB1 : B = false := by rw [hBB]; exact decide_eq_false hf
      subst hB1
      clear hf hBB
      rcases h with h | ⟨h1, h⟩ | ⟨h1, h6, h⟩ | ⟨h1, h6, h3, h⟩ | ⟨h1, h6, h3, h4, h⟩ | ⟨h1, h6, h3, h4, h5, h7, h8⟩
      · have e1 : decide (1 ≤ op) = false := decide_eq_false (by omega)
        clear h hall
        go_quiet (fail)
        go_wp2_with fail
        go_meet
        exact ⟨rfl, _, rfl⟩
      · have e1 : decide (op ≤ 6) = false := decide_eq_false (by omega)
        clear h hall
        go_quiet (fail)
        go_wp2_with fail
        go_meet
        exact ⟨rfl, _, rfl⟩
      all_goals
        obtain ⟨k, rfl⟩ : ∃ k : Nat, op = k := ⟨op.toNat, by omega⟩
        have n0 := hall k (by omega) (by omega)
        have em : min (6 : Int) k = k := by omega
        have ex : max (0 : Int) k = k := by omega
        have eb : (k : Int) < 7 := by omega
        have ec : (0 : Int) ≤ k := by omega
        clear hall
      · have e3 : ((of.len : Int) == needs k) = false := by simp [h]
        clear h
        go_quiet (fail)
        go_wp2_with fail
        go_meet
        exact ⟨rfl, _, rfl⟩
      all_goals
        have e3 : ((of.len : Int) == needs k) = true := by simp [h3]
        clear h3
      · have e4 : decide (0 ≤ la) = false := decide_eq_false (by omega)
        clear h
        go_quiet (fail)
        go_wp2_with fail
        go_meet
        exact ⟨rfl, _, rfl⟩
      · have e5 : decide (la < 16) = false := decide_eq_false (by omega)
        clear h
        go_quiet (fail)
        go_wp2_with fail
        go_meet
        exact ⟨rfl, _, rfl⟩
      · have e7 : ((k : Int) == 1) = false := by simp; omega
        have e8 : (la == 0) = false := by simp [h8]
        clear h7 h8
        go_quiet (fail)
        go_wp2_with fail
        go_meet
        exact ⟨rfl, _, rfl⟩
  case rest =>
    obtain ⟨rfl, q, hwc⟩ := hcut
    rw [hwc]
    have hBq : Below b0 w (W.drewN q) := ⟨HB.out.os, HB.out.tape, HB.out.output, HB.out.size, HB.out.block⟩
    have hkq : (W.drewN q).heap[b0]? = some (.cells #[In op, In la, .slice p of.len cap] 26 (0, 0)) := HK1.out
    obtain ⟨V, hV⟩ : ∃ V, V = W.drewN q := ⟨_, rfl⟩
    rw [← hV] at hBq hkq ⊢
    have HBV := Lib.hid hBq
    have HKV := Lib.hid hkq
    have HRR := Lib.hid (show flF op la of = ((flR of B 0 1).1, (flR of B 0 1).2.1 + 1, (flR of B 0 1).2.2) by rw [HBB.out]; rfl)
    obtain ⟨R, hR⟩ : ∃ R, R = flR of B 0 1 := ⟨_, rfl⟩
    have hbd := flR_bound of B 0 1
    rw [← hR] at HRR hbd
    have HR := Lib.hid hR
    have HBD := Lib.hid hbd
    clear hBq hkq hV hwc HB HK1 HK2 HBB hR hbd
    go_wp2_with fail
    go_loopg [7, 8, 9, 10] (of.len + 1) (fun gg s7 s8 s9 s10 wr => ∃ (f : Bool) (d n : Int) (i : Nat), s7 = .bool f ∧ s8 = .int .i64 d ∧ s9 = .int .i64 n ∧ s10 = .int .i64 i ∧ i ≤ of.len ∧ of.len + 1 ≤ gg + i ∧ 0 ≤ d ∧ d ≤ 1000000 ∧ 0 ≤ n ∧ n ≤ 1000001 ∧
      Hid (Below b0 w wr) ∧ Hid (wr.heap[b0]? = some (.cells #[In op, In la, .slice p of.len cap] 26 (0, 0))) ∧ Hid (R = flR (of.drop i) f d n))
    case atStart => exact ⟨B, 0, 1, 0, rfl, rfl, rfl, rfl, Nat.zero_le _, by omega, by omega, by omega, by omega, by omega, HBV, HKV, Lib.hid (by rw [HR.out]; cases of <;> rfl)⟩
    case round =>
      obtain ⟨f, d, n, i, rfl, rfl, rfl, rfl, hi, hgk, hd0, hd1, hn0, hn1, HBr, HKr, HRr⟩ := hrel
      clear HBV HKV HR
      have c2 := cell_of (o := 2) (v := .slice p of.len cap) HKr.out rfl
      have hbr := HBD.out
      by_cases hlt : i < of.len
      · have hlt' : (i : Int) < (of.len : Int) := by omega
        obtain ⟨op', la', of', hget, hdrop⟩ := Fms.drop_get hlt
        obtain ⟨b, off, rfl, hrow⟩ := HS.out.at hlt
        have hbw : Below w.heap.size w wr := by rw [← HB0.out]; exact HBr.out
        obtain ⟨s', x0, x1, x2, hs'⟩ := (hrow.later hbw).at hget
        obtain ⟨p', cap', rfl⟩ := hs'.slice
        have hszx := Fms.size_get hget
        have hRs : R = flR (of.drop (i + 1)) (f && (flF op' la' of').1) (max d (flF op' la' of').2.1) (n + (flF op' la' of').2.2) := by rw [HRr.out, hdrop, flR_cons]
        have hbx := flF_bound op' la' of'
        have HG := Lib.hid ((Fms.All.at HIH.out hget) (.slice p' of'.len cap') wr (by omega) hs')
        have hnext := flR_bound (of.drop (i + 1)) (f && (flF op' la' of').1) (max d (flF op' la' of').2.1) (n + (flF op' la' of').2.2)
        rw [← hRs] at hnext
        obtain ⟨T, hT⟩ : ∃ T, T = flF op' la' of' := ⟨_, rfl⟩
        rw [← hT] at hRs HG hbx hnext
        obtain ⟨tf, td, tn⟩ := T
        simp only at hRs hbx hnext
        have HRs := Lib.hid hRs
        have HNX := Lib.hid hnext
        clear hget hdrop hrow hbw hs' hRs hT hnext
        go_wp2_with fail
        refine HG.out.mono ?_
        rintro e w3 ⟨rfl, hb3⟩
        have hsb : b0 ≤ wr.heap.size := by rw [HB0.out]; exact HBr.out.size
        have HBm := Lib.hid (HBr.out.trans (hb3.mono hsb))
        have HKm := Lib.hid ((hb3.block b0 (lt_of_block HKr.out)).trans HKr.out)
        have hnx := HNX.out
        clear hb3 HG c2 x0 x1 x2
        cases f
        all_goals
          go_wp2
          go_roundg (of.len - i)
          case measure => omega
          case rel => exact ⟨_, max d td, n + tn, i + 1, rfl, rfl, rfl, by simp, by omega, by omega, by omega, by omega, by omega, by omega, HBm, HKm, HRs⟩
      · obtain rfl : i = of.len := by omega
        have hRf : R = (f, d, n) := by rw [HRr.out, Fms.drop_len]; rfl
        have HRf := Lib.hid hRf
        clear hRf hbr
        go_wp2
        go_ret3
        refine ⟨?_, by rw [← HB0.out]; exact HBr.out⟩
        rw [HRR.out, HRf.out]
        rfl

theorem flaws_any (op la : Int) (of : Fms) : FlawsOk op la of := flaws_step op la of (Fms.all_of flaws_step of)

set_option maxHeartbeats 1000000 in
theorem rcheck_any (op la : Int) (of : Fms) (s : Value) (w : World) (hsz : of.size < 1000000) (hs : SlIs w s of) :
    Calls Tryd.prog 15 #[.agg #[.int .i64 op, .int .i64 la, s]] w fun e w' => e = .returned (.int .i64 (chk op la of)) ∧ Below w.heap.size w w' := by
  obtain ⟨p, cap, rfl⟩ := hs.slice
  have hbA : Below w.heap.size w (w.alloc (.cells #[.int .i64 op, .int .i64 la, .slice p of.len cap] 26)) := (Below.refl _ w).alloc (Nat.le_refl _) _
  have hF := flaws_any op la of (.slice p of.len cap) _ hsz (hs.later hbA)
  have hi := flF_is op la of
  obtain ⟨C, hC⟩ : ∃ C, C = chk op la of := ⟨_, rfl⟩
  rw [← hC]
  obtain ⟨T, hT⟩ : ∃ T, T = flF op la of := ⟨_, rfl⟩
  rw [← hT] at hF hi
  obtain ⟨tf, td, tn⟩ := T
  have HF := Lib.hid hF
  have HB := Lib.hid hbA
  have HI := Lib.hid hi
  have HC := Lib.hid hC
  clear hs hbA hF hi hC hT
  go_enter Tryd.func15, Tryd.ntmps15
  go_wp2_with fail
  refine HF.out.mono ?_
  rintro e w1 ⟨rfl, hb1⟩
  have HB1 := Lib.hid (HB.out.trans (hb1.mono HB.out.size))
  clear hb1 HF HB
  cases tf with
  | false =>
    have hc : C = 2 := by rw [HC.out]; unfold chk; rw [HI.out.2 rfl]
    have HCC := Lib.hid hc
    clear hc
    go_wp2
    go_ret
    exact ⟨by rw [HCC.out]; rfl, HB1.out⟩
  | true =>
    have hc : C = if 32 < td then 311 else if 512 < tn then 3 else 0 := by rw [HC.out]; unfold chk; rw [HI.out.1 rfl]
    have HCC := Lib.hid hc
    clear hc
    by_cases h1 : 32 < td
    · go_wp2
      go_ret
      exact ⟨by rw [HCC.out, if_pos (by omega)]; rfl, HB1.out⟩
    · have e1 : decide (32 < td) = false := decide_eq_false h1
      by_cases h2 : 512 < tn
      · go_wp2
        go_ret
        exact ⟨by rw [HCC.out, if_neg (by omega), if_pos (by omega)]; rfl, HB1.out⟩
      · have e2 : decide (512 < tn) = false := decide_eq_false h2
        go_wp2
        go_ret
        exact ⟨by rw [HCC.out, if_neg (by omega), if_neg (by omega)]; rfl, HB1.out⟩
#print axioms rcheck_any
end Go.Proofs.YthbkdbnalkeieaaDoor
