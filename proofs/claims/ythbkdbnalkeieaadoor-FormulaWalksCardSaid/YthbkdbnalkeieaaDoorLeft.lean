/- The walks of left, light: has a formula few parts? -/
import Derived.Test.YthbkdbnalkeieaaDoorMeas
namespace Go.Proofs.YthbkdbnalkeieaaDoor
open Go.RowKit Go.Sort

/-- What is left of so many parts behind a row's. -/
def leftR : Fms → Int → Int → Int
  | .nil, m, _ => m
  | .cons _ _ of r, m, d => if m < 0 then m else leftR r (if 60 < d ∨ m < of.len then -1 else leftR of (m - 1) (d + 1)) d
def leftF (of : Fms) (m d : Int) : Int := if 60 < d ∨ m < of.len then -1 else leftR of (m - 1) (d + 1)
theorem leftR_neg : ∀ (F : Fms) (m d : Int), m < 0 → leftR F m d = m
  | .nil, _, _, _ => rfl
  | .cons _ _ _ _, m, d, h => by rw [leftR, if_pos h]
theorem leftR_cons (op la : Int) (of r : Fms) (m d : Int) (h : ¬ m < 0) : leftR (.cons op la of r) m d = leftR r (leftF of m d) d := by rw [leftR, if_neg h]; rfl
theorem leftR_range : ∀ (F : Fms) (m d : Int), -1 ≤ m → -1 ≤ leftR F m d ∧ leftR F m d ≤ m ∧ (0 ≤ leftR F m d → F.size + leftR F m d ≤ m)
  | .nil, m, d, h => by simp [leftR, Fms.size, h]
  | .cons op la of r, m, d, h => by
    by_cases hm : m < 0
    · rw [leftR_neg _ _ _ hm]; exact ⟨h, Int.le_refl _, fun h' => by omega⟩
    · rw [leftR_cons _ _ _ _ _ _ hm]
      have h1 : -1 ≤ leftF of m d ∧ leftF of m d < m ∧ (0 ≤ leftF of m d → of.size + leftF of m d + 1 ≤ m) := by
        unfold leftF
        split
        · omega
        · have := leftR_range of (m - 1) (d + 1) (by omega)
          omega
      have h2 := leftR_range r (leftF of m d) d h1.1
      simp only [Fms.size]
      omega
theorem leftF_range (of : Fms) (m d : Int) (h : 0 ≤ m) : -1 ≤ leftF of m d ∧ leftF of m d < m ∧ (0 ≤ leftF of m d → of.size + leftF of m d + 1 ≤ m) := by
  unfold leftF
  split
  · omega
  · have := leftR_range of (m - 1) (d + 1) (by omega)
    omega

theorem Below.mono' {b0 : Nat} {w w' : World} (h : Below b0 w w') (e : b0 = w.heap.size) : Below w.heap.size w w' := e ▸ h
theorem Below.size0 {b0 : Nat} {w w' : World} (h : Below b0 w w') (e : b0 = w.heap.size) : b0 ≤ w'.heap.size := by rw [e]; exact h.size

def LeftOk (op la : Int) (of : Fms) : Prop :=
  ∀ (s : Value) (w : World) (m d : Int), 0 ≤ m → m ≤ 1000 → 0 ≤ d → d ≤ 100 → SlIs w s of →
    Calls Tryd.prog 37 #[.agg #[.int .i64 op, .int .i64 la, s], .int .i64 m, .int .i64 d] w fun e w' => e = .returned (.int .i64 (leftF of m d)) ∧ Below w.heap.size w w'

set_option maxHeartbeats 4000000 in
set_option maxRecDepth 100000 in
theorem left_step (op la : Int) (of : Fms) (IH : of.All LeftOk) : LeftOk op la of := by
  intro s w m d hm0 hm1 hd0 hd1 hs
  obtain ⟨p, cap, rfl⟩ := hs.slice
  have HS := Lib.hid hs
  have HIH := Lib.hid IH
  have hlf : leftF of m d = if 60 < d ∨ m < of.len then -1 else leftR of (m - 1) (d + 1) := rfl
  have HLF := Lib.hid hlf
  clear hs IH hlf
  obtain ⟨R, hR⟩ : ∃ R, R = leftF of m d := ⟨_, rfl⟩
  rw [← hR]
  have HR := Lib.hid hR
  clear hR
  go_enter Tryd.func37, Tryd.ntmps37
  go_upto_region 1 with fail
  obtain ⟨W, hW⟩ : ∃ W, W = w.alloc (.cells #[.int .i64 op, .int .i64 la, .slice p of.len cap] 26) := ⟨_, rfl⟩
  obtain ⟨b0, hb0⟩ : ∃ b0, b0 = w.heap.size := ⟨_, rfl⟩
  rw [← hW, ← hb0]
  have hblk : W.heap[b0]? = some (.cells #[.int .i64 op, .int .i64 la, .slice p of.len cap] 26 (0, 0)) := by rw [hW, hb0]; exact block_alloc_new w _
  have c2 : W.cell? ⟨b0, 2, none⟩ = some (.slice p of.len cap) := cell_of hblk rfl
  have hB : Below w.heap.size w W := by rw [hW]; exact (Below.refl _ w).alloc (Nat.le_refl _) _
  have HB := Lib.hid hB
  have HK := Lib.hid hblk
  have HB0 := Lib.hid hb0
  clear hW hblk hB hb0
  by_cases h60 : 60 < d
  · go_wp2
    go_ret
    exact ⟨by rw [HR.out, HLF.out, if_pos (.inl h60)]; rfl, HB.out⟩
  · have h60' : decide (60 < d) = false := decide_eq_false h60
    by_cases hml : m < of.len
    · go_wp2
      go_ret
      exact ⟨by rw [HR.out, HLF.out, if_pos (.inr hml)]; rfl, HB.out⟩
    · have hml' : decide (m < (of.len : Int)) = false := decide_eq_false hml
      have hRF : R = leftR of (m - 1) (d + 1) := by rw [HR.out, HLF.out, if_neg (by omega)]
      have HRF := Lib.hid hRF
      have hof : of.len ≤ 1000 := by omega
      clear hRF HR HLF
      go_wp2_with fail
      clear c2
      go_loopg [1, 7] (of.len + 1) (fun gg s1 s7 wr => ∃ (x : Int) (i : Nat), s1 = .int .i64 x ∧ s7 = .int .i64 i ∧ i ≤ of.len ∧ of.len + 1 ≤ gg + i ∧ -1 ≤ x ∧ x ≤ 1000 ∧ Hid (Below b0 w wr) ∧ Hid (wr.heap[b0]? = some (.cells #[.int .i64 op, .int .i64 la, .slice p of.len cap] 26 (0, 0))) ∧ Hid (R = leftR (of.drop i) x (d + 1)))
      case atStart => exact ⟨m - 1, 0, rfl, rfl, Nat.zero_le _, by omega, by omega, by omega, Lib.hid (by rw [HB0.out]; exact HB.out), HK, Lib.hid (by rw [HRF.out]; cases of <;> rfl)⟩
      case round =>
        obtain ⟨x, i, rfl, rfl, hi, hgk, hx0, hx1, HBr, HKr, HRr⟩ := hrel
        have c2 : wr.cell? ⟨b0, 2, none⟩ = some (.slice p of.len cap) := cell_of HKr.out rfl
        clear HB HK HRF
        by_cases hlt : i < of.len
        · have hlt' : (i : Int) < (of.len : Int) := by omega
          by_cases hx : 0 ≤ x
          · obtain ⟨op', la', of', hget, hdrop⟩ := Fms.drop_get hlt
            obtain ⟨b, off, rfl, hrow⟩ := HS.out.at hlt
            have hrw := hrow.later (Below.mono' HBr.out HB0.out)
            obtain ⟨s', e0, e1, e2, hs'⟩ := hrw.at hget
            obtain ⟨p', cap', rfl⟩ := hs'.slice
            have HS' := Lib.hid hs'
            have HG := Lib.hid (Fms.All.at HIH.out hget)
            have HR2 := Lib.hid (HRr.out.trans (by rw [hdrop, leftR_cons _ _ _ _ _ _ (by omega)]))
            have hr := leftF_range of' x (d + 1) hx
            clear hs' hrow hrw hget hdrop
            go_wp2_with fail
            refine (HG.out (.slice p' of'.len cap') wr x (d + 1) hx hx1 (by omega) (by omega) HS'.out).mono ?_
            rintro e w3 ⟨rfl, hb3⟩
            have HB3 := Lib.hid (HBr.out.trans (hb3.mono (Below.size0 HBr.out HB0.out)))
            have HK3 := Lib.hid ((hb3.block b0 (lt_of_block HKr.out)).trans HKr.out)
            clear hb3 c2 e0 e1 e2
            go_wp2
            go_roundg (of.len - i)
            case measure => omega
            case rel => exact ⟨leftF of' x (d + 1), i + 1, rfl, by simp, by omega, by omega, hr.1, by omega, HB3, HK3, HR2⟩
          · have hx' : decide (0 ≤ x) = false := decide_eq_false hx
            have hR := HRr.out
            rw [leftR_neg _ _ _ (by omega)] at hR
            have HRx := Lib.hid hR
            clear hR
            go_wp2
            go_ret
            exact ⟨by rw [HRx.out]; rfl, by rw [← HB0.out]; exact HBr.out⟩
        · have hlt' : decide ((i : Int) < (of.len : Int)) = false := decide_eq_false (by omega)
          obtain rfl : i = of.len := by omega
          have hR := HRr.out
          rw [Fms.drop_len] at hR
          have HRx := Lib.hid (show R = x from hR)
          clear hR
          go_wp2
          go_ret
          exact ⟨by rw [HRx.out]; rfl, by rw [← HB0.out]; exact HBr.out⟩

theorem left_any (op la : Int) (of : Fms) : LeftOk op la of := left_step op la of (Fms.all_of left_step of)

/-- Has it few parts? -/
def lightF (of : Fms) : Bool := decide (0 ≤ leftF of 700 1)
theorem light_size {of : Fms} (h : lightF of = true) : of.size < 700 := by
  have h' : 0 ≤ leftF of 700 1 := of_decide_eq_true h
  have := leftF_range of 700 1 (by omega)
  omega
set_option maxHeartbeats 1000000 in
theorem light_any (op la : Int) (of : Fms) (s : Value) (w : World) (hs : SlIs w s of) :
    Calls Tryd.prog 16 #[.agg #[.int .i64 op, .int .i64 la, s]] w fun e w' => e = .returned (.bool (lightF of)) ∧ Below w.heap.size w w' := by
  obtain ⟨p, cap, rfl⟩ := hs.slice
  have hbA : Below w.heap.size w (w.alloc (.cells #[.int .i64 op, .int .i64 la, .slice p of.len cap] 26)) := (Below.refl _ w).alloc (Nat.le_refl _) _
  have HL := Lib.hid (left_any op la of (.slice p of.len cap) _ 700 1 (by decide) (by decide) (by decide) (by decide) (hs.later hbA))
  have HB := Lib.hid hbA
  clear hs hbA
  go_enter Tryd.func16, Tryd.ntmps16
  go_wp2_with fail
  refine HL.out.mono ?_
  rintro e w1 ⟨rfl, hb1⟩
  go_wp2
  go_ret
  exact ⟨rfl, HB.out.trans (hb1.mono HB.out.size)⟩
#print axioms light_any
end Go.Proofs.YthbkdbnalkeieaaDoor
