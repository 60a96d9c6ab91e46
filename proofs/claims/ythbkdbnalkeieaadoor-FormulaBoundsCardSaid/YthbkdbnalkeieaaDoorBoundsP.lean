/- Plain laws for FormulaBounds: signs around L0, how they are read; a row of formulas, two by two. -/
import Derived.Test.YthbkdbnalkeieaaDoorRound
namespace Go.Proofs.YthbkdbnalkeieaaDoor
open Go.RowKit Go.Sort Go.Shelf

def preB (bs : List Bool) : List UInt8 := bs.map fun b => if b then 33 else 40
def behB (bs : List Bool) : List UInt8 := List.replicate (bs.count false) 41
def nfF : List Bool → Int × Int × Fms
  | [] => (1, 0, .nil)
  | true :: t => (2, 0, .cons (nfF t).1 (nfF t).2.1 (nfF t).2.2 .nil)
  | false :: t => nfF t

theorem lev_bad {o e : Int} {s : List UInt8} {N : Nat} (h : ∀ n, N ≤ n → prs n .atom o s = .bad e) : ∀ (d n : Nat), N + d + 1 ≤ n → prs n (.lev d) o s = .bad e
  | 0, n, hn => by
    obtain ⟨m, rfl⟩ : ∃ m, n = m + 1 := ⟨n - 1, by omega⟩
    rw [prs]; exact h m (by omega)
  | d + 1, n, hn => by
    obtain ⟨m, rfl⟩ : ∃ m, n = m + 1 := ⟨n - 1, by omega⟩
    rw [prs, lev_bad h d m (by omega)]

theorem signs_read : ∀ (bs : List Bool) (o : Int) (r : List UInt8) (m : Nat), 0 ≤ o → (firstB r < 48 ∨ 57 < firstB r) → 8 * bs.length + 2 ≤ m →
    prs m .atom o (preB bs ++ (76 :: 48 :: (behB bs ++ r))) = if o + bs.length ≤ 32 ∨ bs = [] then .ok (nfF bs).1 (nfF bs).2.1 (nfF bs).2.2 r else .bad 311
  | [], o, r, m, h0, hr, hm => by
    obtain ⟨m, rfl⟩ : ∃ k, m = k + 1 := ⟨m - 1, by omega⟩
    rw [if_pos (.inr rfl)]
    show prs (m + 1) .atom o (76 :: (48 :: r)) = _
    have h1 : firstB (76 :: 48 :: r) = 76 := rfl
    rw [prs, h1, if_pos rfl]
    have d0 : Lib.decDigits 0 = [48] := by kernel_rfl
    have := lay_read 0 (by decide) r hr
    rw [d0] at this
    exact this
  | true :: t, o, r, m, h0, hr, hm => by
    simp only [List.length_cons] at hm
    obtain ⟨m, rfl⟩ : ∃ k, m = k + 1 := ⟨m - 1, by omega⟩
    have ih := signs_read t (o + 1) r m (by omega) hr (by omega)
    have e : preB (true :: t) ++ (76 :: 48 :: (behB (true :: t) ++ r)) = 33 :: (preB t ++ (76 :: 48 :: (behB t ++ r))) := by simp [preB, behB]
    have h1 : firstB (33 :: (preB t ++ (76 :: 48 :: (behB t ++ r)))) = 33 := rfl
    rw [e, prs, h1, if_neg (by decide), if_pos rfl, List.tail_cons, ih]
    by_cases ho : o < 32
    · rw [if_pos ho]
      by_cases ht : o + 1 + t.length ≤ 32 ∨ t = []
      · rw [if_pos ht, if_pos (by
          rcases ht with h | rfl
          · left; simp; omega
          · left; simp; omega)]
        rfl
      · rw [if_neg ht, if_neg (by simp only [not_or] at ht; simp; omega)]
    · rw [if_neg ho, if_neg (by simp; omega)]
  | false :: t, o, r, m, h0, hr, hm => by
    simp only [List.length_cons] at hm
    obtain ⟨m, rfl⟩ : ∃ k, m = k + 1 := ⟨m - 1, by omega⟩
    have h41 : ∀ j, signOf j 41 = 0 := fun j => by simp [signOf]
    have e : preB (false :: t) ++ (76 :: 48 :: (behB (false :: t) ++ r)) = 40 :: (preB t ++ (76 :: 48 :: (behB t ++ (41 :: r)))) := by
      simp [preB, behB, List.replicate_succ']
    have h1 : firstB (40 :: (preB t ++ (76 :: 48 :: (behB t ++ (41 :: r))))) = 40 := rfl
    rw [e, prs, h1, if_neg (by decide), if_neg (by decide), if_pos rfl, List.tail_cons]
    by_cases ho : o < 32
    · rw [if_pos ho]
      have ih := fun n (hn : 8 * t.length + 2 ≤ n) => signs_read t (o + 1) (41 :: r) n (by omega) (.inl (by show (41 : UInt8) < 48; decide)) hn
      by_cases ht : o + 1 + t.length ≤ 32 ∨ t = []
      · simp only [if_pos ht] at ih
        have hA : ∀ p, 8 * t.length + 3 ≤ p → prs p (.lev 0) (o + 1) (preB t ++ (76 :: 48 :: (behB t ++ (41 :: r)))) = .ok (nfF t).1 (nfF t).2.1 (nfF t).2.2 (41 :: r) := by
          intro p hp
          obtain ⟨p, rfl⟩ : ∃ m', p = m' + 1 := ⟨p - 1, by omega⟩
          rw [prs]
          exact ih p (by omega)
        have hC := lev_up 3 hA (fun j h1 h2 => h41 _) (by omega) m (by omega)
        rw [show 0 + 3 = 3 from rfl] at hC
        rw [hC, if_pos (by
          rcases ht with h | rfl
          · left; simp; omega
          · left; simp; omega)]
        simp [firstB, nfF]
      · simp only [if_neg ht] at ih
        rw [lev_bad ih 3 m (by omega), if_neg (by simp only [not_or] at ht; simp; omega)]
    · rw [if_neg ho, if_neg (by simp; omega)]

theorem nf_meas : ∀ bs : List Bool, meas (nfF bs).1 (nfF bs).2.1 (nfF bs).2.2 = some (((bs.count true : Nat) : Int) + 1, ((bs.count true : Nat) : Int) + 1)
  | [] => by decide
  | true :: t => by
    have ih := nf_meas t
    simp only [nfF]
    unfold meas
    rw [if_pos (by simp [fine, needs, Fms.len]), foldM_cons, ih]
    simp [foldM]
    omega
  | false :: t => by simpa [nfF] using nf_meas t

theorem behB_length (bs : List Bool) : (behB bs).length ≤ bs.length := by simpa [behB] using List.count_le_length
theorem signs_rd (bs : List Bool) (h20 : 20 ≤ bs.length) (h40 : bs.length ≤ 40) :
    (bs.length ≤ 32 ∧ bs.count true + 1 ≤ 32 → ∃ op la of, rd (preB bs ++ (76 :: 48 :: behB bs)) = .ok op la of []) ∧ (¬ (bs.length ≤ 32 ∧ bs.count true + 1 ≤ 32) → rd (preB bs ++ (76 :: 48 :: behB bs)) = .bad 311) := by
  have hb := behB_length bs
  have hl : (preB bs ++ (76 :: 48 :: behB bs)).length ≤ 82 := by simp [preB]; omega
  have hl2 : bs.length + 2 ≤ (preB bs ++ (76 :: 48 :: behB bs)).length := by simp [preB]
  have hf : ∀ r : List UInt8, r = [] → (firstB r < 48 ∨ 57 < firstB r) := by rintro r rfl; exact .inl (by decide)
  have h := fun m (hm : 8 * bs.length + 2 ≤ m) => signs_read bs 0 [] m (by omega) (hf _ rfl) hm
  rw [List.append_nil] at h
  have hne : ¬ bs = [] := by rintro rfl; simp at h20
  have hs0 : ∀ j, signOf j (firstB []) = 0 := fun j => by simp [signOf, firstB]
  have hck : chk (nfF bs).1 (nfF bs).2.1 (nfF bs).2.2 = if bs.count true + 1 ≤ 32 then 0 else 311 := by
    unfold chk
    rw [nf_meas]
    simp only
    by_cases hc : bs.count true + 1 ≤ 32
    · rw [if_neg (by omega), if_neg (by omega), if_pos hc]
    · rw [if_pos (by omega), if_neg hc]
  unfold rd
  rw [if_pos (by omega)]
  by_cases h32 : bs.length ≤ 32
  · simp only [if_pos (show (0 : Int) + bs.length ≤ 32 ∨ bs = [] from .inl (by omega))] at h
    have hA : ∀ p, 8 * bs.length + 3 ≤ p → prs p (.lev 0) 0 (preB bs ++ (76 :: 48 :: behB bs)) = .ok (nfF bs).1 (nfF bs).2.1 (nfF bs).2.2 [] := by
      intro p hp
      obtain ⟨p, rfl⟩ : ∃ m', p = m' + 1 := ⟨p - 1, by omega⟩
      rw [prs]
      exact h p (by omega)
    have hC := lev_up 3 hA (fun j h1 h2 => hs0 _) (by omega) (8 * (preB bs ++ (76 :: 48 :: behB bs)).length + 9) (by omega)
    rw [show 0 + 3 = 3 from rfl] at hC
    rw [hC]
    simp only [if_true, hck]
    refine ⟨fun hh => ⟨_, _, _, by rw [if_pos hh.2]; rfl⟩, fun hh => ?_⟩
    have : ¬ bs.count true + 1 ≤ 32 := fun h => hh ⟨h32, h⟩
    rw [if_neg this]; rfl
  · simp only [if_neg (show ¬ ((0 : Int) + bs.length ≤ 32 ∨ bs = []) by simp [hne]; omega)] at h
    rw [lev_bad h 3 _ (by omega)]
    exact ⟨fun hh => absurd hh.1 h32, fun _ => rfl⟩

/-! Two by two. -/
def pairUp : Fms → Fms
  | .cons o1 l1 f1 (.cons o2 l2 f2 r) => .cons 5 0 (.cons o1 l1 f1 (.cons o2 l2 f2 .nil)) (pairUp r)
  | F => F
theorem pairUp_len : ∀ F : Fms, (pairUp F).len = (F.len + 1) / 2
  | .nil => rfl
  | .cons _ _ _ .nil => by simp [pairUp, Fms.len]
  | .cons _ _ _ (.cons _ _ _ r) => by simp [pairUp, Fms.len, pairUp_len r]; omega
theorem pairUp_size : ∀ F : Fms, (pairUp F).size + (pairUp F).len = F.size + F.len
  | .nil => rfl
  | .cons _ _ _ .nil => rfl
  | .cons _ _ _ (.cons _ _ _ r) => by have := pairUp_size r; simp [pairUp, Fms.len, Fms.size]; omega
/-- Each is one that may be, of such a depth at most. -/
def okD (D : Int) : Fms → Prop
  | .nil => True
  | .cons op la of r => (∃ d n, meas op la of = some (d, n) ∧ 1 ≤ d ∧ d ≤ D) ∧ okD D r
theorem okD.mono {D E : Int} (h : D ≤ E) : ∀ {F : Fms}, okD D F → okD E F
  | .nil, _ => trivial
  | .cons _ _ _ _, ⟨⟨d, n, h1, h2, h3⟩, h4⟩ => ⟨⟨d, n, h1, h2, by omega⟩, okD.mono h h4⟩
theorem okD.pair {D : Int} : ∀ {F : Fms}, okD D F → okD (D + 1) (pairUp F)
  | .nil, _ => trivial
  | .cons _ _ _ .nil, h => h.mono (by omega)
  | .cons o1 l1 f1 (.cons o2 l2 f2 r), ⟨⟨d1, n1, m1, a1, b1⟩, ⟨d2, n2, m2, a2, b2⟩, h⟩ => by
    refine ⟨⟨max (max 0 d1) d2 + 1, 1 + n1 + n2, ?_, by omega, by omega⟩, okD.pair h⟩
    unfold meas
    rw [if_pos (by simp [fine, needs, Fms.len]), foldM_cons, m1]
    simp only
    rw [foldM_cons, m2]
    simp [foldM]
theorem okD.one {D op la : Int} {of : Fms} (h : okD D (.cons op la of .nil)) (hD : D ≤ 32) : chk op la of = if (of.size : Int) + 1 ≤ 512 then 0 else 3 := by
  obtain ⟨⟨d, n, m, a, b⟩, _⟩ := h
  have hn := meas_size m
  unfold chk
  rw [m]
  simp only
  rw [if_neg (by omega)]
  by_cases hc : (of.size : Int) + 1 ≤ 512
  · rw [if_neg (by omega), if_pos hc]
  · rw [if_pos (by omega), if_neg hc]
/-- The layers with which it begins. -/
def leaves : Nat → Nat → Fms
  | _, 0 => .nil
  | i, n + 1 => .cons 1 ((i % 16 : Nat) : Int) .nil (leaves (i + 1) n)
theorem leaves_len : ∀ i n, (leaves i n).len = n
  | _, 0 => rfl
  | i, n + 1 => by simp [leaves, Fms.len, leaves_len]
theorem leaves_size : ∀ i n, (leaves i n).size = n
  | _, 0 => rfl
  | i, n + 1 => by simp [leaves, Fms.size, leaves_size]
theorem leaves_ok : ∀ i n, okD 1 (leaves i n)
  | _, 0 => trivial
  | i, n + 1 => by
    refine ⟨⟨1, 1, ?_, by omega, by omega⟩, leaves_ok _ _⟩
    unfold meas
    rw [if_pos (by simp [fine, needs, Fms.len]; omega)]
    simp [foldM]
theorem leaves_get : ∀ (i n k : Nat), k < n → (leaves i n).get k = some (1, (((i + k) % 16 : Nat) : Int), .nil)
  | _, 0, _, h => absurd h (by omega)
  | i, n + 1, 0, _ => rfl
  | i, n + 1, k + 1, h => by
    simp only [leaves, Fms.get]
    rw [leaves_get (i + 1) n k (by omega), show i + 1 + k = i + (k + 1) by omega]
end Go.Proofs.YthbkdbnalkeieaaDoor
