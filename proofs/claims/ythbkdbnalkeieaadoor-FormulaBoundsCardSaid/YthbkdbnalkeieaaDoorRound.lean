/- Plain law: what is read of a formula's text is the formula. -/
import Derived.Test.YthbkdbnalkeieaaDoorWorks
import Derived.Test.YthbkdbnalkeieaaDoorRAtom2
namespace Go.Proofs.YthbkdbnalkeieaaDoor
open Go.RowKit Go.Sort Go.Shelf

theorem lay_read (n : Nat) (hn : n < 16) (r : List UInt8) (hr : firstB r < 48 ∨ 57 < firstB r) : layFrom 16 (Lib.decDigits n ++ r) = .ok 1 n .nil r := by
  have d0 : Lib.decDigits 0 = [48] := by kernel_rfl
  have d1 : Lib.decDigits 1 = [49] := by kernel_rfl
  have d2 : Lib.decDigits 2 = [50] := by kernel_rfl
  have d3 : Lib.decDigits 3 = [51] := by kernel_rfl
  have d4 : Lib.decDigits 4 = [52] := by kernel_rfl
  have d5 : Lib.decDigits 5 = [53] := by kernel_rfl
  have d6 : Lib.decDigits 6 = [54] := by kernel_rfl
  have d7 : Lib.decDigits 7 = [55] := by kernel_rfl
  have d8 : Lib.decDigits 8 = [56] := by kernel_rfl
  have d9 : Lib.decDigits 9 = [57] := by kernel_rfl
  have d10 : Lib.decDigits 10 = [49, 48] := by kernel_rfl
  have d11 : Lib.decDigits 11 = [49, 49] := by kernel_rfl
  have d12 : Lib.decDigits 12 = [49, 50] := by kernel_rfl
  have d13 : Lib.decDigits 13 = [49, 51] := by kernel_rfl
  have d14 : Lib.decDigits 14 = [49, 52] := by kernel_rfl
  have d15 : Lib.decDigits 15 = [49, 53] := by kernel_rfl
  cases r with
  | nil =>
    rcases (by omega : n = 0 ∨ n = 1 ∨ n = 2 ∨ n = 3 ∨ n = 4 ∨ n = 5 ∨ n = 6 ∨ n = 7 ∨ n = 8 ∨ n = 9 ∨ n = 10 ∨ n = 11 ∨ n = 12 ∨ n = 13 ∨ n = 14 ∨ n = 15) with rfl | rfl | rfl | rfl | rfl | rfl | rfl | rfl | rfl | rfl | rfl | rfl | rfl | rfl | rfl | rfl
    all_goals simp [layFrom, Lib.hasPrefix, Lib.trimPrefix, List.isPrefixOf, d0, d1, d2, d3, d4, d5, d6, d7, d8, d9, d10, d11, d12, d13, d14, d15]
  | cons c t =>
    replace hr : c < 48 ∨ 57 < c := hr
    have c48 : (((48 : UInt8) == c) = false) := by
      simp only [beq_eq_false_iff_ne, ne_eq]
      rintro rfl
      exact absurd hr (by decide)
    have c49 : (((49 : UInt8) == c) = false) := by
      simp only [beq_eq_false_iff_ne, ne_eq]
      rintro rfl
      exact absurd hr (by decide)
    have c50 : (((50 : UInt8) == c) = false) := by
      simp only [beq_eq_false_iff_ne, ne_eq]
      rintro rfl
      exact absurd hr (by decide)
    have c51 : (((51 : UInt8) == c) = false) := by
      simp only [beq_eq_false_iff_ne, ne_eq]
      rintro rfl
      exact absurd hr (by decide)
    have c52 : (((52 : UInt8) == c) = false) := by
      simp only [beq_eq_false_iff_ne, ne_eq]
      rintro rfl
      exact absurd hr (by decide)
    have c53 : (((53 : UInt8) == c) = false) := by
      simp only [beq_eq_false_iff_ne, ne_eq]
      rintro rfl
      exact absurd hr (by decide)
    clear hr
    rcases (by omega : n = 0 ∨ n = 1 ∨ n = 2 ∨ n = 3 ∨ n = 4 ∨ n = 5 ∨ n = 6 ∨ n = 7 ∨ n = 8 ∨ n = 9 ∨ n = 10 ∨ n = 11 ∨ n = 12 ∨ n = 13 ∨ n = 14 ∨ n = 15) with rfl | rfl | rfl | rfl | rfl | rfl | rfl | rfl | rfl | rfl | rfl | rfl | rfl | rfl | rfl | rfl
    all_goals simp [layFrom, Lib.hasPrefix, Lib.trimPrefix, List.isPrefixOf, d0, d1, d2, d3, d4, d5, d6, d7, d8, d9, d10, d11, d12, d13, d14, d15, c48, c49, c50, c51, c52, c53]

/-- What the text may be followed by: no sign of the levels below. -/
def offs (k : Nat) (c : UInt8) : Prop := ∀ j, j < k → signOf (2 - j) c = 0

theorem lev_up {o op la : Int} {of : Fms} {s r : List UInt8} {N a : Nat} : ∀ (d : Nat), (∀ n, N ≤ n → prs n (.lev a) o s = .ok op la of r) → (∀ j, a ≤ j → j < a + d → signOf (2 - j) (firstB r) = 0) → 0 < N →
    ∀ n, N + d ≤ n → prs n (.lev (a + d)) o s = .ok op la of r
  | 0, h, _, _, n, hn => h n (by omega)
  | d + 1, h, hs, h0, n, hn => by
    obtain ⟨m, rfl⟩ : ∃ m, n = m + 1 := ⟨n - 1, by omega⟩
    have ih := lev_up d h (fun j h1 h2 => hs j h1 (by omega)) h0 m (by omega)
    obtain ⟨k, rfl⟩ : ∃ k, m = k + 1 := ⟨m - 1, by omega⟩
    show prs (k + 1 + 1) (.lev (a + d + 1)) o s = _
    rw [prs, ih]
    simp only
    rw [prs, if_pos (hs (a + d) (by omega) (by omega))]

/-- The level whose sign an Op has. -/
def lvOf (op : Int) : Nat := if op = 6 then 2 else if op = 5 then 1 else 0
theorem sgn_at {op : Int} (h : op = 3 ∨ op = 4 ∨ op = 5 ∨ op = 6) : signOf (2 - lvOf op) (sgn op) = op ∧ (∀ j, j < lvOf op → signOf (2 - j) (sgn op) = 0) ∧ lvOf op ≤ 2 ∧ (sgn op < 48 ∨ 57 < sgn op) := by
  rcases h with rfl | rfl | rfl | rfl
  · exact ⟨by decide, fun j hj => absurd hj (by simp [lvOf]), by decide, by decide⟩
  · exact ⟨by decide, fun j hj => absurd hj (by simp [lvOf]), by decide, by decide⟩
  · refine ⟨by decide, fun j hj => ?_, by decide, by decide⟩
    obtain rfl : j = 0 := by simp [lvOf] at hj; exact hj
    decide
  · refine ⟨by decide, fun j hj => ?_, by decide, by decide⟩
    have : j = 0 ∨ j = 1 := by simp [lvOf] at hj; omega
    rcases this with rfl | rfl <;> decide

/-- A formula's text is read as it. -/
def RoundOk (op la : Int) (of : Fms) : Prop := ∀ (d n : Int) (o : Int) (r : List UInt8) (m : Nat), meas op la of = some (d, n) → 0 ≤ o → o + d ≤ 32 → (firstB r < 48 ∨ 57 < firstB r) →
  8 * (txt op la of).length ≤ m → prs m .atom o (txt op la of ++ r) = .ok op la of r

theorem first_app (l : List UInt8) (c : UInt8) (r : List UInt8) : firstB (c :: l ++ r) = c := rfl

theorem round_step (op la : Int) (of : Fms) (IH : of.All RoundOk) : RoundOk op la of := by
  intro d n o r m hm h0 hd hr hlen
  have hw := ways (op := op) (la := la) (of := of) (by rw [hm]; simp)
  rcases hw with ⟨rfl, rfl, h2, h3⟩ | ⟨rfl, o1, l1, f1, rfl, hm1⟩ | ⟨h3, h6, oa, lx, fa, ob, ly, fb, rfl, hm1, hm2⟩
  · obtain ⟨k, rfl⟩ : ∃ k : Nat, la = k := ⟨la.toNat, by omega⟩
    have e : txt 1 (k : Int) .nil = 76 :: Lib.decDigits k := by simp [txt, txt1]
    rw [e] at hlen ⊢
    obtain ⟨m, rfl⟩ : ∃ m', m = m' + 1 := ⟨m - 1, by simp at hlen; omega⟩
    rw [prs, first_app, if_pos rfl]
    exact lay_read k (by omega) r hr
  · have hla : la = 0 := by
      have := (meas_fine (by rw [hm]; simp)).1.2.2.2
      omega
    subst hla
    have e : txt 2 0 (.cons o1 l1 f1 .nil) = 33 :: txt o1 l1 f1 := by simp [txt, txt1, txts]
    rw [e] at hlen ⊢
    obtain ⟨m, rfl⟩ : ∃ m', m = m' + 1 := ⟨m - 1, by simp at hlen; omega⟩
    obtain ⟨d1, n1, hq⟩ : ∃ d1 n1, meas o1 l1 f1 = some (d1, n1) := by
      cases h : meas o1 l1 f1 with
      | none => exact absurd h hm1
      | some p => exact ⟨p.1, p.2, rfl⟩
    have hdd : d1 + 1 ≤ d := by
      unfold meas at hm
      split at hm
      · rw [foldM_cons, hq] at hm
        simp [foldM] at hm
        omega
      · cases hm
    have hd1 : 0 ≤ d1 := by
      unfold meas at hq
      split at hq
      · cases hz : foldM f1 0 1 with
        | none => rw [hz] at hq; cases hq
        | some p =>
          rw [hz] at hq
          have := foldM_bound _ _ _ _ _ hz
          simp at hq
          omega
      · cases hq
    rw [prs, first_app, if_neg (by decide), if_pos rfl, if_pos (by omega)]
    have := IH.1 d1 n1 (o + 1) r m hq (by omega) (by omega) hr (by simp at hlen; omega)
    show (match prs m .atom (o + 1) (txt o1 l1 f1 ++ r) with | .ok op la of r => _ | .bad e => _) = _
    rw [this]
  · have hla : la = 0 := by
      have := (meas_fine (by rw [hm]; simp)).1.2.2.2
      omega
    subst hla
    have hop : op = 3 ∨ op = 4 ∨ op = 5 ∨ op = 6 := by omega
    have n1 : ¬ op = 1 := by omega
    have n2 : ¬ op = 2 := by omega
    have e : txt op 0 (.cons oa lx fa (.cons ob ly fb .nil)) = 40 :: (txt oa lx fa ++ (sgn op :: (txt ob ly fb ++ [41]))) := by simp [txt, txt1, txts, n1, n2]
    rw [e] at hlen ⊢
    obtain ⟨m, rfl⟩ : ∃ m', m = m' + 1 := ⟨m - 1, by simp at hlen; omega⟩
    obtain ⟨d1, n1', hq⟩ : ∃ d1 n1, meas oa lx fa = some (d1, n1) := by
      cases h : meas oa lx fa with
      | none => exact absurd h hm1
      | some p => exact ⟨p.1, p.2, rfl⟩
    obtain ⟨d2, n2', hq2⟩ : ∃ d1 n1, meas ob ly fb = some (d1, n1) := by
      cases h : meas ob ly fb with
      | none => exact absurd h hm2
      | some p => exact ⟨p.1, p.2, rfl⟩
    have hdd : d1 + 1 ≤ d ∧ d2 + 1 ≤ d ∧ 1 ≤ d := by
      unfold meas at hm
      split at hm
      · rw [foldM_cons, hq] at hm
        simp only at hm
        rw [foldM_cons, hq2] at hm
        simp [foldM] at hm
        omega
      · cases hm
    obtain ⟨g1, g2, g3, g4⟩ := sgn_at hop
    simp only [List.length_cons, List.length_append, List.length_nil] at hlen
    have ea : (txt oa lx fa ++ sgn op :: (txt ob ly fb ++ [41])) ++ r = txt oa lx fa ++ (sgn op :: (txt ob ly fb ++ (41 :: r))) := by simp
    have hA : ∀ p, 8 * (txt oa lx fa).length + 1 ≤ p → prs p (.lev 0) (o + 1) (txt oa lx fa ++ (sgn op :: (txt ob ly fb ++ (41 :: r)))) = .ok oa lx fa (sgn op :: (txt ob ly fb ++ (41 :: r))) := by
      intro p hp
      obtain ⟨p, rfl⟩ : ∃ m', p = m' + 1 := ⟨p - 1, by omega⟩
      rw [prs]
      exact IH.1 d1 n1' (o + 1) _ p hq (by omega) (by omega) (by exact g4) (by omega)
    have hB : ∀ p, 8 * (txt ob ly fb).length + 1 ≤ p → prs p (.lev 0) (o + 1) (txt ob ly fb ++ (41 :: r)) = .ok ob ly fb (41 :: r) := by
      intro p hp
      obtain ⟨p, rfl⟩ : ∃ m', p = m' + 1 := ⟨p - 1, by omega⟩
      rw [prs]
      exact IH.2.1 d2 n2' (o + 1) _ p hq2 (by omega) (by omega) (.inl (by show (41 : UInt8) < 48; decide)) (by omega)
    have hA2 := lev_up (lvOf op) hA (fun j h1 h2 => g2 j (by omega)) (by omega)
    have h41 : ∀ j, signOf j 41 = 0 := fun j => by simp [signOf]
    have hB2 := lev_up (lvOf op) hB (fun j h1 h2 => h41 _) (by omega)
    simp only [Nat.zero_add] at hA2 hB2
    have hBin : ∀ p, 8 * (txt oa lx fa).length + 8 * (txt ob ly fb).length + 12 ≤ p → prs p (.lev (lvOf op + 1)) (o + 1) (txt oa lx fa ++ (sgn op :: (txt ob ly fb ++ (41 :: r)))) = .ok op 0 (.cons oa lx fa (.cons ob ly fb .nil)) (41 :: r) := by
      intro p hp
      obtain ⟨p, rfl⟩ : ∃ m', p = m' + 3 := ⟨p - 3, by omega⟩
      rw [prs, hA2 _ (by omega)]
      simp only
      rw [prs]
      have e1 : firstB (sgn op :: (txt ob ly fb ++ 41 :: r)) = sgn op := rfl
      rw [e1, g1, if_neg (by omega), List.tail_cons, hB2 _ (by omega)]
      simp only
      rw [prs]
      have e2 : firstB (41 :: r) = 41 := rfl
      rw [e2, h41, if_pos rfl]
    obtain ⟨q, hq3⟩ : ∃ q, lvOf op + 1 + q = 3 := ⟨2 - lvOf op, by omega⟩
    have hC := lev_up q hBin (fun j h1 h2 => h41 _) (by omega) m (by omega)
    rw [hq3] at hC
    show prs (m + 1) .atom o (40 :: ((txt oa lx fa ++ sgn op :: (txt ob ly fb ++ [41])) ++ r)) = _
    rw [prs_par, if_pos (by omega), ea, hC]
    simp [parPR, firstB]

theorem round_any (op la : Int) (of : Fms) : RoundOk op la of := round_step op la of (Fms.all_of round_step of)
theorem chk_some {op la : Int} {of : Fms} (h : chk op la of = 0) : ∃ d n, meas op la of = some (d, n) ∧ d ≤ 32 ∧ n ≤ 512 := by
  unfold chk at h
  split at h
  · cases h
  · rename_i d n hm
    split at h
    · cases h
    · split at h
      · cases h
      · exact ⟨d, n, hm, by omega, by omega⟩
theorem foldM_size : ∀ (F : Fms) (d n x y : Int), foldM F d n = some (x, y) → y = n + F.size
  | .nil, d, n, x, y, h => by simp [foldM] at h; simp [Fms.size]; omega
  | .cons op la of r, d, n, x, y, h => by
    rw [foldM] at h
    split at h
    · cases h1 : foldM of 0 1 with
      | none => rw [h1] at h; cases h
      | some p =>
        rw [h1] at h
        have h2 := foldM_size of 0 1 p.1 p.2 h1
        have h3 := foldM_size r _ _ x y h
        simp only [Fms.size]
        omega
    · cases h
theorem meas_size {op la d n : Int} {of : Fms} (h : meas op la of = some (d, n)) : n = of.size + 1 := by
  unfold meas at h
  split at h
  · cases hz : foldM of 0 1 with
    | none => rw [hz] at h; cases h
    | some p =>
      rw [hz] at h
      have := foldM_size _ _ _ _ _ hz
      simp at h
      omega
  · cases h
/-- The text of a formula that may be is read as it. -/
theorem rd_txt {op la : Int} {of : Fms} (h : chk op la of = 0) : rd (txt op la of) = .ok op la of [] := by
  obtain ⟨d, n, hm, hd, hn⟩ := chk_some h
  have hs := meas_size hm
  have hl := txt_len (op := op) (la := la) (of := of) (by rw [hm]; simp)
  unfold rd
  have hz : (0 : UInt8) < 48 := by decide
  have h0 : ∀ p, 8 * (txt op la of).length + 1 ≤ p → prs p (.lev 0) 0 (txt op la of) = .ok op la of [] := by
    intro p hp
    obtain ⟨p, rfl⟩ : ∃ m', p = m' + 1 := ⟨p - 1, by omega⟩
    rw [prs]
    have := round_any op la of d n 0 [] p hm (by omega) (by omega) (.inl hz) (by omega)
    rwa [List.append_nil] at this
  have h3 := lev_up 3 h0 (fun j _ _ => by simp [signOf, firstB]) (by omega) (8 * (txt op la of).length + 9) (by omega)
  rw [if_pos (by omega)]
  simp only [Nat.zero_add] at h3
  rw [h3]
  simp [h]
#print axioms rd_txt
end Go.Proofs.YthbkdbnalkeieaaDoor
