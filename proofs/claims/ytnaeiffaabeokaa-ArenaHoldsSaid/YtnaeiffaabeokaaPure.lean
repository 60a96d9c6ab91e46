/- The plain law of the arena's heap: a push and a pop keep the heap's order, and what pops is the least. No program in sight. -/
import Derived.Sort.Lot0
namespace Go.Proofs.Ytnaeiffaabeokaa.Hp
open Go.Sort

def HP (d : Array Int) : Prop := ∀ j, 0 < j → j < d.size → d[(j - 1) / 2]! ≤ d[j]!
def Mem (d : Array Int) (y : Int) : Prop := ∃ k, k < d.size ∧ d[k]! = y

theorem swp_at (d : Array Int) {i j : Nat} (hi : i < d.size) (hj : j < d.size) (k : Nat) :
    (swp d i j)[k]! = if k = i then d[j]! else if k = j then d[i]! else d[k]! := by
  by_cases h1 : k = i
  · subst h1
    rw [if_pos rfl]
    by_cases h2 : k = j
    · subst h2; exact swp_right d k k hj
    · exact swp_left d k j hi h2
  · rw [if_neg h1]
    by_cases h2 : k = j
    · subst h2; rw [if_pos rfl]; exact swp_right d i k hj
    · rw [if_neg h2]; exact swp_other d i j k h1 h2

theorem mem_swp (d : Array Int) {i j : Nat} (hi : i < d.size) (hj : j < d.size) (y : Int) : Mem (swp d i j) y ↔ Mem d y := by
  constructor
  · rintro ⟨k, hk, rfl⟩
    rw [size_swp] at hk
    rw [swp_at d hi hj]
    split
    · exact ⟨j, hj, rfl⟩
    · split
      · exact ⟨i, hi, rfl⟩
      · exact ⟨k, hk, rfl⟩
  · rintro ⟨k, hk, rfl⟩
    by_cases h1 : k = i
    · refine ⟨j, by rw [size_swp]; exact hj, ?_⟩
      rw [swp_at d hi hj]
      split
      · next h => rw [h1, h]
      · rw [if_pos rfl, h1]
    · by_cases h2 : k = j
      · refine ⟨i, by rw [size_swp]; exact hi, ?_⟩
        rw [swp_at d hi hj, if_pos rfl, h2]
      · refine ⟨k, by rw [size_swp]; exact hk, ?_⟩
        rw [swp_at d hi hj, if_neg h1, if_neg h2]

/-- The sift up, from i on. -/
def up : Nat → Nat → Array Int → Array Int
  | 0, _, d => d
  | f + 1, i, d => if 0 < i ∧ d[i]! < d[(i - 1) / 2]! then up f ((i - 1) / 2) (swp d i ((i - 1) / 2)) else d

theorem up_size : ∀ (f i : Nat) (d : Array Int), (up f i d).size = d.size
  | 0, _, _ => rfl
  | f + 1, i, d => by
    simp only [up]
    split
    · rw [up_size, size_swp]
    · rfl

theorem up_mem : ∀ (f i : Nat) (d : Array Int), i < d.size → ∀ y, Mem (up f i d) y ↔ Mem d y
  | 0, _, _, _, _ => Iff.rfl
  | f + 1, i, d, hi, y => by
    simp only [up]
    split
    · rw [up_mem f _ _ (by rw [size_swp]; omega), mem_swp d hi (by omega)]
    · exact Iff.rfl

/-- In order but at i; and i's children are no less than i's parent. -/
def UpInv (i : Nat) (d : Array Int) : Prop :=
  (∀ j, 0 < j → j < d.size → j ≠ i → d[(j - 1) / 2]! ≤ d[j]!) ∧
  (∀ j, 0 < j → j < d.size → (j - 1) / 2 = i → 0 < i → d[(i - 1) / 2]! ≤ d[j]!)

theorem up_hp : ∀ (f i : Nat) (d : Array Int), i ≤ f → i < d.size → UpInv i d → HP (up f i d)
  | 0, i, d, hf, hi, h => by
    have : i = 0 := by omega
    subst this
    intro j h0 hj
    exact h.1 j h0 hj (by omega)
  | f + 1, i, d, hf, hi, h => by
    simp only [up]
    split
    · next hc =>
      obtain ⟨h0, hlt⟩ := hc
      have hp : (i - 1) / 2 < d.size := by omega
      have hpi : (i - 1) / 2 ≠ i := by omega
      refine up_hp f _ _ (by omega) (by rw [size_swp]; exact hp) ⟨fun j j0 hj hne => ?_, fun j j0 hj hpar hp0 => ?_⟩
      · rw [size_swp] at hj
        rw [swp_at d hi hp, swp_at d hi hp]
        by_cases hji : j = i
        · subst hji
          rw [if_pos rfl, if_neg hpi, if_pos rfl]
          omega
        · rw [if_neg hji, if_neg hne]
          by_cases hq : (j - 1) / 2 = i
          · rw [if_pos hq]
            exact h.2 j j0 hj hq h0
          · rw [if_neg hq]
            have hj1 := h.1 j j0 hj hji
            by_cases hq2 : (j - 1) / 2 = (i - 1) / 2
            · rw [if_pos hq2]
              rw [hq2] at hj1
              omega
            · rw [if_neg hq2]
              exact hj1
      · rw [size_swp] at hj
        rw [swp_at d hi hp, swp_at d hi hp]
        have hg : ((i - 1) / 2 - 1) / 2 ≠ i := by omega
        have hg2 : ((i - 1) / 2 - 1) / 2 ≠ (i - 1) / 2 := by omega
        rw [if_neg hg, if_neg hg2]
        have hgp := h.1 ((i - 1) / 2) hp0 hp hpi
        by_cases hji : j = i
        · rw [if_pos hji]; exact hgp
        · have hjp : j ≠ (i - 1) / 2 := by omega
          rw [if_neg hji, if_neg hjp]
          have hj1 := h.1 j j0 hj hji
          rw [hpar] at hj1
          omega
    · next hc =>
      intro j j0 hj
      by_cases hji : j = i
      · subst hji
        have : ¬ d[j]! < d[(j - 1) / 2]! := fun hl => hc ⟨j0, hl⟩
        omega
      · exact h.1 j j0 hj hji

def push (d : Array Int) (x : Int) : Array Int := up d.size d.size (d.push x)

theorem push_get (d : Array Int) (x : Int) {k : Nat} (hk : k < d.size) : (d.push x)[k]! = d[k]! := by
  rw [getElem!_pos (d.push x) k (by simp; omega), getElem!_pos d k hk, Array.getElem_push_lt]
theorem push_last (d : Array Int) (x : Int) : (d.push x)[d.size]! = x := by
  rw [getElem!_pos (d.push x) d.size (by simp), Array.getElem_push_eq]

theorem push_size (d : Array Int) (x : Int) : (push d x).size = d.size + 1 := by simp [push, up_size]
theorem push_mem (d : Array Int) (x y : Int) : Mem (push d x) y ↔ (Mem d y ∨ y = x) := by
  rw [push, up_mem _ _ _ (by simp)]
  constructor
  · rintro ⟨k, hk, rfl⟩
    simp only [Array.size_push] at hk
    by_cases h : k = d.size
    · subst h; exact .inr (push_last d x)
    · exact .inl ⟨k, by omega, (push_get d x (by omega)).symm⟩
  · rintro (⟨k, hk, rfl⟩ | rfl)
    · exact ⟨k, by simp; omega, push_get d x hk⟩
    · exact ⟨d.size, by simp, push_last d y⟩
theorem push_hp (d : Array Int) (x : Int) (h : HP d) : HP (push d x) := by
  refine up_hp _ _ _ (Nat.le_refl _) (by simp) ⟨fun j j0 hj hne => ?_, fun j j0 hj hp h0 => ?_⟩
  · simp only [Array.size_push] at hj
    rw [push_get d x (by omega), push_get d x (by omega)]
    exact h j j0 (by omega)
  · simp only [Array.size_push] at hj
    omega

/-- Which of i and its children is the least. -/
def pick1 (d : Array Int) (i : Nat) : Nat := if 2 * i + 1 < d.size ∧ d[2 * i + 1]! < d[i]! then 2 * i + 1 else i
def pick (d : Array Int) (i : Nat) : Nat := if 2 * i + 2 < d.size ∧ d[2 * i + 2]! < d[pick1 d i]! then 2 * i + 2 else pick1 d i
def down : Nat → Nat → Array Int → Array Int
  | 0, _, d => d
  | f + 1, i, d => if pick d i = i then d else down f (pick d i) (swp d i (pick d i))

theorem pick1_lt (d : Array Int) (i : Nat) (hi : i < d.size) : pick1 d i < d.size := by unfold pick1; split <;> omega
theorem pick_lt (d : Array Int) (i : Nat) (hi : i < d.size) : pick d i < d.size := by
  unfold pick
  split
  · omega
  · exact pick1_lt d i hi
theorem pick_ge (d : Array Int) (i : Nat) : i ≤ pick d i := by unfold pick pick1; split <;> (try split) <;> omega
theorem pick_le (d : Array Int) (i : Nat) : pick d i = i ∨ pick d i = 2 * i + 1 ∨ pick d i = 2 * i + 2 := by
  unfold pick pick1; split <;> (try split) <;> omega
theorem pick_least (d : Array Int) (i : Nat) : d[pick d i]! ≤ d[i]! ∧ (2 * i + 1 < d.size → d[pick d i]! ≤ d[2 * i + 1]!) ∧ (2 * i + 2 < d.size → d[pick d i]! ≤ d[2 * i + 2]!) := by
  have h1 : d[pick1 d i]! ≤ d[i]! ∧ (2 * i + 1 < d.size → d[pick1 d i]! ≤ d[2 * i + 1]!) := by
    unfold pick1
    split
    · next h => exact ⟨by omega, fun _ => Int.le_refl _⟩
    · next h => exact ⟨Int.le_refl _, fun hs => by
        have : ¬ d[2 * i + 1]! < d[i]! := fun hl => h ⟨hs, hl⟩
        omega⟩
  unfold pick
  split
  · next h => exact ⟨by omega, fun hs => by have := h1.2 hs; omega, fun _ => Int.le_refl _⟩
  · next h => exact ⟨h1.1, h1.2, fun hs => by
      have : ¬ d[2 * i + 2]! < d[pick1 d i]! := fun hl => h ⟨hs, hl⟩
      omega⟩

theorem down_size : ∀ (f i : Nat) (d : Array Int), (down f i d).size = d.size
  | 0, _, _ => rfl
  | f + 1, i, d => by
    simp only [down]
    split
    · rfl
    · rw [down_size, size_swp]
theorem down_mem : ∀ (f i : Nat) (d : Array Int), i < d.size → ∀ y, Mem (down f i d) y ↔ Mem d y
  | 0, _, _, _, _ => Iff.rfl
  | f + 1, i, d, hi, y => by
    simp only [down]
    split
    · exact Iff.rfl
    · rw [down_mem f _ _ (by rw [size_swp]; exact pick_lt d i hi), mem_swp d hi (pick_lt d i hi)]

/-- In order but for i's children; and those are no less than i's parent. -/
def DownInv (i : Nat) (d : Array Int) : Prop :=
  (∀ j, 0 < j → j < d.size → (j - 1) / 2 ≠ i → d[(j - 1) / 2]! ≤ d[j]!) ∧
  (∀ j, 0 < j → j < d.size → (j - 1) / 2 = i → 0 < i → d[(i - 1) / 2]! ≤ d[j]!)

theorem down_hp : ∀ (f i : Nat) (d : Array Int), d.size ≤ f + i → i < d.size → DownInv i d → HP (down f i d)
  | 0, i, d, hf, hi, h => by omega
  | f + 1, i, d, hf, hi, h => by
    simp only [down]
    obtain ⟨l0, l1, l2⟩ := pick_least d i
    split
    · next hp =>
      rw [hp] at l1 l2
      intro j j0 hj
      by_cases hq : (j - 1) / 2 = i
      · rw [hq]
        have : j = 2 * i + 1 ∨ j = 2 * i + 2 := by omega
        rcases this with rfl | rfl
        · exact l1 hj
        · exact l2 hj
      · exact h.1 j j0 hj hq
    · next hp =>
      have hk := pick_lt d i hi
      have hge := pick_ge d i
      have hch : pick d i = 2 * i + 1 ∨ pick d i = 2 * i + 2 := by have := pick_le d i; omega
      have hpar : (pick d i - 1) / 2 = i := by omega
      refine down_hp f _ _ (by rw [size_swp]; omega) (by rw [size_swp]; exact hk) ⟨fun j j0 hj hne => ?_, fun j j0 hj hpj h0 => ?_⟩
      · rw [size_swp] at hj
        rw [swp_at d hi hk, swp_at d hi hk]
        by_cases hji : j = i
        · subst hji
          have hq1 : (j - 1) / 2 ≠ j := by omega
          rw [if_neg hq1, if_neg hne, if_pos rfl]
          exact h.2 (pick d j) (by omega) hk hpar j0
        · rw [if_neg hji]
          by_cases hjk : j = pick d i
          · rw [if_pos hjk, hjk, hpar, if_pos rfl]
            exact l0
          · rw [if_neg hjk]
            by_cases hq : (j - 1) / 2 = i
            · rw [if_pos hq]
              have : j = 2 * i + 1 ∨ j = 2 * i + 2 := by omega
              rcases this with rfl | rfl
              · exact l1 hj
              · exact l2 hj
            · rw [if_neg hq, if_neg hne]
              exact h.1 j j0 hj hq
      · rw [size_swp] at hj
        rw [swp_at d hi hk, swp_at d hi hk]
        rw [hpar, if_pos rfl]
        have hji : j ≠ i := by omega
        have hjk : j ≠ pick d i := by omega
        rw [if_neg hji, if_neg hjk]
        have := h.1 j j0 hj (by omega)
        rw [hpj] at this
        exact this

/-- What is left when the least has gone. -/
def pop (d : Array Int) : Array Int := down (d.size - 1) 0 ((d.setIfInBounds 0 d[d.size - 1]!).pop)

theorem popped_get (d : Array Int) {k : Nat} (hk : k + 1 < d.size) : ((d.setIfInBounds 0 d[d.size - 1]!).pop)[k]! = if k = 0 then d[d.size - 1]! else d[k]! := by
  rw [getElem!_pos _ k (by simp; omega), Array.getElem_pop, Array.getElem_setIfInBounds]
  · by_cases h : k = 0
    · subst h; simp
    · rw [if_neg (fun e => h e.symm), if_neg h, getElem!_pos d k (by omega)]

theorem pop_size (d : Array Int) : (pop d).size = d.size - 1 := by simp [pop, down_size]
theorem hp_least (d : Array Int) (h : HP d) : ∀ k, k < d.size → d[0]! ≤ d[k]! := by
  intro k
  induction k using Nat.strongRecOn with
  | _ k ih =>
    intro hk
    by_cases h0 : k = 0
    · subst h0; exact Int.le_refl _
    · have := ih ((k - 1) / 2) (by omega) (by omega)
      have h2 := h k (by omega) hk
      omega
theorem pop_hp (d : Array Int) (h : HP d) (_h0 : 0 < d.size) : HP (pop d) := by
  by_cases h1 : d.size = 1
  · intro j j0 hj
    rw [pop_size] at hj
    omega
  · refine down_hp _ _ _ (by simp) (by simp; omega) ⟨fun j j0 hj hne => ?_, fun j j0 hj hp h0 => by omega⟩
    simp only [Array.size_pop, Array.size_setIfInBounds] at hj
    rw [popped_get d (by omega), popped_get d (by omega), if_neg hne, if_neg (by omega)]
    exact h j j0 (by omega)
theorem pop_mem_of (d : Array Int) (y : Int) (hy : Mem (pop d) y) : Mem d y := by
  have h1 : 1 < d.size := by
    obtain ⟨k, hk, _⟩ := hy
    rw [pop_size] at hk
    omega
  rw [pop, down_mem _ _ _ (by simp; omega)] at hy
  obtain ⟨k, hk, rfl⟩ := hy
  simp only [Array.size_pop, Array.size_setIfInBounds] at hk
  rw [popped_get d (by omega)]
  split
  · exact ⟨d.size - 1, by omega, rfl⟩
  · exact ⟨k, by omega, rfl⟩
theorem pop_mem (d : Array Int) (_h0 : 0 < d.size) (y : Int) (hy : Mem d y) : y = d[0]! ∨ Mem (pop d) y := by
  obtain ⟨k, hk, rfl⟩ := hy
  by_cases hk0 : k = 0
  · subst hk0; exact .inl rfl
  · right
    rw [pop, down_mem _ _ _ (by simp; omega)]
    by_cases hl : k = d.size - 1
    · refine ⟨0, by simp; omega, ?_⟩
      rw [popped_get d (by omega), if_pos rfl, hl]
    · refine ⟨k, by simp; omega, ?_⟩
      rw [popped_get d (by omega), if_neg hk0]

theorem len_le : ∀ (n : Nat) (T : List Int), T.Nodup → (∀ x ∈ T, 0 ≤ x ∧ x < (n : Int)) → T.length ≤ n
  | 0, T, _, h => by
    cases T with
    | nil => simp
    | cons x T => have := h x (by simp); omega
  | n + 1, T, hn, h => by
    by_cases hm : (n : Int) ∈ T
    · have := len_le n (T.erase (n : Int)) (hn.erase _) (fun x hx => by
        have hx' := (hn.mem_erase_iff).1 hx
        have := h x hx'.2
        have hne := hx'.1
        omega)
      rw [List.length_erase_of_mem hm] at this
      omega
    · have := len_le n T hn (fun x hx => by
        have h1 := h x hx
        have : x ≠ n := fun e => hm (e ▸ hx)
        omega)
      omega
theorem len_ge : ∀ (n : Nat) (T : List Int), T.Nodup → (∀ x : Int, 0 ≤ x → x < (n : Int) → x ∈ T) → n ≤ T.length
  | 0, _, _, _ => Nat.zero_le _
  | n + 1, T, hn, h => by
    have hm : (n : Int) ∈ T := h n (by omega) (by omega)
    have := len_ge n (T.erase (n : Int)) (hn.erase _) (fun x h0 h1 => (hn.mem_erase_iff).2 ⟨by omega, h x h0 (by omega)⟩)
    rw [List.length_erase_of_mem hm] at this
    have : 0 < T.length := List.length_pos_of_mem hm
    omega

#print axioms pop_mem
end Go.Proofs.Ytnaeiffaabeokaa.Hp
