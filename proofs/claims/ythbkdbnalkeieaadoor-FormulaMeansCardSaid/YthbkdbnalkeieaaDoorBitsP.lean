/- What FormulaMeans leans on, in plain Lean: layers, masks, what may be of formulas that may be. -/
import Derived.Test.YthbkdbnalkeieaaDoorSame
namespace Go.Proofs.YthbkdbnalkeieaaDoor
open Go.RowKit Go.Sort Go.Shelf

theorem keep_some (d : Array Int) : ∀ j, ∃ i, i ≤ j ∧ Lib.keeps d i = true ∧ d[i]! = d[j]!
  | 0 => ⟨0, Nat.le_refl _, by simp [Lib.keeps], rfl⟩
  | j + 1 => by
    cases h : Lib.keeps d (j + 1) with
    | true => exact ⟨j + 1, Nat.le_refl _, h, rfl⟩
    | false =>
      obtain ⟨i, h1, h2, h3⟩ := keep_some d j
      refine ⟨i, by omega, h2, h3.trans ?_⟩
      simp [Lib.keeps] at h
      exact h.symm
theorem mem_compact (zs : List Int) (x : Int) : x ∈ Lib.compact zs ↔ x ∈ zs := by
  unfold Lib.compact Lib.compactUpTo
  simp only [List.mem_map, List.mem_filter, List.mem_range]
  constructor
  · rintro ⟨j, ⟨hj, _⟩, rfl⟩
    have : zs.toArray[j]! = zs[j] := by simp [hj]
    rw [this]
    exact List.getElem_mem hj
  · intro h
    obtain ⟨j, hj, rfl⟩ := List.getElem_of_mem h
    obtain ⟨i, h1, h2, h3⟩ := keep_some zs.toArray j
    refine ⟨i, ⟨by omega, h2⟩, h3.trans ?_⟩
    simp [hj]
theorem mem_lyS (op la : Int) (of : Fms) (x : Int) : x ∈ lyS op la of ↔ x ∈ ly op la of := by
  unfold lyS
  rw [mem_compact, List.mem_mergeSort]

theorem meas_fold {op la : Int} {of : Fms} (h : meas op la of ≠ none) : fine op la of.len ∧ foldM of 0 1 ≠ none := by
  unfold meas at h
  split at h
  · refine ⟨by assumption, fun e => h (by rw [e]; rfl)⟩
  · exact absurd rfl h
theorem foldM_any : ∀ (F : Fms) (d n d' n' : Int), foldM F d n ≠ none → foldM F d' n' ≠ none
  | .nil, _, _, _, _, _ => by simp [foldM]
  | .cons op la of r, d, n, d', n', h => by
    rw [foldM_cons] at h ⊢
    cases hm : meas op la of with
    | none => rw [hm] at h; exact absurd rfl h
    | some p => rw [hm] at h; exact foldM_any r _ _ _ _ h
theorem lyF_range : ∀ (F : Fms), foldM F 0 1 ≠ none → ∀ x ∈ lyF F, 0 ≤ x ∧ x < 16
  | .nil, _, x, hx => by simp [lyF] at hx
  | .cons op la of r, h, x, hx => by
    rw [foldM_cons] at h
    cases hm : meas op la of with
    | none => rw [hm] at h; exact absurd rfl h
    | some p =>
      rw [hm] at h
      obtain ⟨hf, hof⟩ := meas_fold (fun e => absurd (hm.symm.trans e) (by simp) : meas op la of ≠ none)
      simp only [lyF, List.mem_append] at hx
      rcases hx with hx | hx | hx
      · split at hx
        · simp at hx
          subst hx
          exact ⟨hf.2.1, hf.2.2.1⟩
        · cases hx
      · exact lyF_range of hof x hx
      · exact lyF_range r (foldM_any r _ _ _ _ h) x hx
theorem ly_range {op la : Int} {of : Fms} (h : meas op la of ≠ none) : ∀ x ∈ ly op la of, 0 ≤ x ∧ x < 16 := by
  obtain ⟨hf, hof⟩ := meas_fold h
  intro x hx
  simp only [ly, List.mem_append] at hx
  rcases hx with hx | hx
  · split at hx
    · simp at hx
      subst hx
      exact ⟨hf.2.1, hf.2.2.1⟩
    · cases hx
  · exact lyF_range of hof x hx
theorem chk_meas {op la : Int} {of : Fms} (h : chk op la of = 0) : meas op la of ≠ none := by
  intro e
  unfold chk at h
  rw [e] at h
  cases h

/-- Only the layers that stand in it count. -/
theorem hlds_agree (m m' : Nat) : ∀ F : Fms, (∀ x ∈ lyF F, m.testBit x.toNat = m'.testBit x.toNat) → hlds m F = hlds m' F
  | .nil, _ => rfl
  | .cons op la of r, h => by
    have h1 := hlds_agree m m' of (fun x hx => h x (by simp [lyF, hx]))
    have h2 := hlds_agree m m' r (fun x hx => h x (by simp [lyF, hx]))
    rw [hlds, hlds, h1, h2]
    congr 1
    unfold hld1
    by_cases e : op = 1
    · rw [if_pos e, if_pos e]
      exact h la (by simp [lyF, e])
    · rw [if_neg e, if_neg e]
theorem hld_agree (op la : Int) (of : Fms) (m m' : Nat) (h : ∀ x ∈ ly op la of, m.testBit x.toNat = m'.testBit x.toNat) : hld op la of m = hld op la of m' := by
  have h1 := hlds_agree m m' of (fun x hx => h x (by simp [ly, hx]))
  unfold hld
  rw [h1]
  unfold hld1
  by_cases e : op = 1
  · rw [if_pos e, if_pos e]
    exact h la (by simp [ly, e])
  · rw [if_neg e, if_neg e]

/-- A formula of formulas that may be is too great at most. -/
theorem chk_of {op la : Int} {of : Fms} (hf : fine op la of.len) (ho : foldM of 0 1 ≠ none) : chk op la of = 0 ∨ chk op la of = 311 ∨ chk op la of = 3 := by
  unfold chk meas
  rw [if_pos hf]
  cases h : foldM of 0 1 with
  | none => exact absurd h ho
  | some p =>
    simp only [Option.map_some]
    split
    · right; left; rfl
    · split
      · right; right; rfl
      · left; rfl
theorem fold_two {oa la ob lb : Int} {FA FB : Fms} (ha : meas oa la FA ≠ none) (hb : meas ob lb FB ≠ none) : foldM (two oa la FA ob lb FB) 0 1 ≠ none := by
  unfold two
  rw [foldM_cons]
  cases h : meas oa la FA with
  | none => exact absurd h ha
  | some p =>
    show foldM (.cons ob lb FB .nil) _ _ ≠ none
    rw [foldM_cons]
    cases h' : meas ob lb FB with
    | none => exact absurd h' hb
    | some p => simp [foldM]
theorem fold_one {oa la : Int} {FA : Fms} (ha : meas oa la FA ≠ none) : foldM (.cons oa la FA .nil) 0 1 ≠ none := by
  rw [foldM_cons]
  cases h : meas oa la FA with
  | none => exact absurd h ha
  | some p => simp [foldM]
theorem meas_ne {op la : Int} {of : Fms} (hf : fine op la of.len) (ho : foldM of 0 1 ≠ none) : meas op la of ≠ none := by
  unfold meas
  rw [if_pos hf]
  cases h : foldM of 0 1 with
  | none => exact absurd h ho
  | some p => simp
theorem chk_not {oa la : Int} {FA : Fms} (ha : chk oa la FA = 0) : chk 2 0 (.cons oa la FA .nil) = 0 ∨ chk 2 0 (.cons oa la FA .nil) = 311 ∨ chk 2 0 (.cons oa la FA .nil) = 3 :=
  chk_of (by refine ⟨by simp [Fms.len, needs], by omega, by omega, .inr rfl⟩) (fold_one (chk_meas ha))
theorem chk_two {op oa la ob lb : Int} {FA FB : Fms} (h3 : 3 ≤ op) (h6 : op ≤ 6) (ha : meas oa la FA ≠ none) (hb : meas ob lb FB ≠ none) : chk op 0 (two oa la FA ob lb FB) = 0 ∨ chk op 0 (two oa la FA ob lb FB) = 311 ∨ chk op 0 (two oa la FA ob lb FB) = 3 :=
  chk_of (by refine ⟨?_, by omega, by omega, .inr rfl⟩; rw [two_len]; unfold needs; rw [if_neg (by omega), if_neg (by omega), if_pos ⟨h3, h6⟩]; rfl) (fold_two ha hb)
theorem meas_not {oa la : Int} {FA : Fms} (ha : meas oa la FA ≠ none) : meas 2 0 (.cons oa la FA .nil) ≠ none :=
  meas_ne (by refine ⟨by simp [Fms.len, needs], by omega, by omega, .inr rfl⟩) (fold_one ha)
theorem meas_two {op oa la ob lb : Int} {FA FB : Fms} (h3 : 3 ≤ op) (h6 : op ≤ 6) (ha : meas oa la FA ≠ none) (hb : meas ob lb FB ≠ none) : meas op 0 (two oa la FA ob lb FB) ≠ none :=
  meas_ne (by refine ⟨?_, by omega, by omega, .inr rfl⟩; rw [two_len]; unfold needs; rw [if_neg (by omega), if_neg (by omega), if_pos ⟨h3, h6⟩]; rfl) (fold_two ha hb)
theorem chk_not' {op la : Int} {of : Fms} (ha : meas op la of ≠ none) : chk 2 0 (.cons op la of .nil) = 0 ∨ chk 2 0 (.cons op la of .nil) = 311 ∨ chk 2 0 (.cons op la of .nil) = 3 :=
  chk_of (by refine ⟨by simp [Fms.len, needs], by omega, by omega, .inr rfl⟩) (fold_one ha)
theorem two_at3 {w : World} {k : Nat} {oa la ob lb : Int} {FB : Fms} {sa sb : Value} (h : w.heap[k]? = some (.cells #[In oa, In la, sa, In ob, In lb, sb] 26 (0, 0))) (hb : SlIs w sb FB) (cap : Nat) :
    SlIs w (.slice (some ⟨k, 3, none⟩) 1 cap) (.cons ob lb FB .nil) :=
  .inr ⟨k, 3, cap, rfl, ⟨sb, cell_of h rfl, cell_of h rfl, cell_of h rfl, hb⟩, trivial⟩
theorem two_at1 {w : World} {k : Nat} {oa la ob lb : Int} {FA : Fms} {sa sb : Value} (h : w.heap[k]? = some (.cells #[In oa, In la, sa, In ob, In lb, sb] 26 (0, 0))) (ha : SlIs w sa FA) (cap : Nat) :
    SlIs w (.slice (some ⟨k, 0, none⟩) 1 cap) (.cons oa la FA .nil) :=
  .inr ⟨k, 0, cap, rfl, ⟨sa, cell_of h rfl, cell_of h rfl, cell_of h rfl, ha⟩, trivial⟩

/-- What the law says of the Op 2 + k. -/
def saidB (a b : Bool) (k : Nat) : Bool := if k = 0 then !a else bin (2 + k) a b
theorem lyF_le : ∀ F : Fms, (lyF F).length ≤ F.size
  | .nil => by simp [lyF]
  | .cons op la of r => by
    have h1 := lyF_le of
    have h2 := lyF_le r
    simp only [lyF, List.length_append, Fms.size]
    split <;> simp <;> omega
theorem lyS_le (op la : Int) (of : Fms) : (lyS op la of).length ≤ of.size + 1 := by
  have h1 := compact_le ((ly op la of).mergeSort fun x y => decide (x ≤ y))
  rw [List.length_mergeSort] at h1
  have h2 := lyF_le of
  have h3 : (ly op la of).length ≤ 1 + (lyF of).length := by
    simp only [ly, List.length_append]
    split <;> simp
  unfold lyS
  omega

theorem ofI (a : Nat) : BitVec.ofInt 16 (a : Int) = BitVec.ofNat 16 a := BitVec.ofInt_natCast ..
theorem u16_of (X : BitVec 16) : IntKind.u16.wrap (X.toNat : Int) = (X.toNat : Int) := by
  have := X.isLt
  rw [IntKind.wrap_u16]
  omega
theorem wrap_pow (y : Nat) (hy : y < 16) : IntKind.u16.wrap ((2 : Int) ^ y) = ((2 ^ y : Nat) : Int) := by
  have : ∀ y : Fin 16, IntKind.u16.wrap ((2 : Int) ^ (y : Nat)) = ((2 ^ (y : Nat) : Nat) : Int) := by decide
  exact this ⟨y, hy⟩
theorem or_step (q y : Nat) (hq : q < 65536) (hy : y < 16) : ∃ q' : Nat, bits .or .u16 (q : Int) (IntKind.u16.wrap ((2 : Int) ^ y)) = (q' : Int) ∧ q' < 65536 ∧ q'.testBit y = true ∧ ∀ z, q.testBit z = true → q'.testBit z = true := by
  rw [wrap_pow y hy]
  have h2 : 2 ^ y < 65536 := Nat.pow_lt_pow_right (by decide) hy
  refine ⟨(BitVec.ofNat 16 q ||| BitVec.ofNat 16 (2 ^ y)).toNat, ?_, (BitVec.ofNat 16 q ||| BitVec.ofNat 16 (2 ^ y)).isLt, ?_, ?_⟩
  · show IntKind.u16.wrap ((BitVec.ofInt 16 (q : Int) ||| BitVec.ofInt 16 ((2 ^ y : Nat) : Int)).toNat : Int) = _
    rw [ofI, ofI, u16_of]
  · rw [BitVec.toNat_or, Nat.testBit_or]
    have : (BitVec.ofNat 16 (2 ^ y)).toNat = 2 ^ y := by rw [BitVec.toNat_ofNat]; exact Nat.mod_eq_of_lt h2
    rw [this, Nat.testBit_two_pow_self]
    simp
  · intro z hz
    rw [BitVec.toNat_or, Nat.testBit_or]
    have : (BitVec.ofNat 16 q).toNat = q := by rw [BitVec.toNat_ofNat]; exact Nat.mod_eq_of_lt hq
    rw [this, hz]
    rfl
theorem mix (m om q : Nat) : ∃ m' : Nat, bits .or .u16 (bits .and .u16 (m : Int) (q : Int)) (bits .andNot .u16 (om : Int) (q : Int)) = (m' : Int) ∧ m' < 65536 ∧
    ∀ z, z < 16 → q.testBit z = true → m'.testBit z = m.testBit z := by
  have e1 : bits .and .u16 (m : Int) (q : Int) = (((BitVec.ofNat 16 m &&& BitVec.ofNat 16 q).toNat : Nat) : Int) := by
    show IntKind.u16.wrap ((BitVec.ofInt 16 (m : Int) &&& BitVec.ofInt 16 (q : Int)).toNat : Int) = _
    rw [ofI, ofI, u16_of]
  have e2 : bits .andNot .u16 (om : Int) (q : Int) = (((BitVec.ofNat 16 om &&& ~~~ (BitVec.ofNat 16 q)).toNat : Nat) : Int) := by
    show IntKind.u16.wrap ((BitVec.ofInt 16 (om : Int) &&& ~~~ (BitVec.ofInt 16 (q : Int))).toNat : Int) = _
    rw [ofI, ofI, u16_of]
  rw [e1, e2]
  obtain ⟨A, hA⟩ : ∃ A, A = BitVec.ofNat 16 m &&& BitVec.ofNat 16 q := ⟨_, rfl⟩
  obtain ⟨B, hB⟩ : ∃ B, B = BitVec.ofNat 16 om &&& ~~~ (BitVec.ofNat 16 q) := ⟨_, rfl⟩
  rw [← hA, ← hB]
  refine ⟨(A ||| B).toNat, ?_, (A ||| B).isLt, ?_⟩
  · show IntKind.u16.wrap ((BitVec.ofInt 16 (A.toNat : Int) ||| BitVec.ofInt 16 (B.toNat : Int)).toNat : Int) = _
    rw [ofI, ofI, u16_of, BitVec.ofNat_toNat, BitVec.ofNat_toNat, BitVec.setWidth_eq, BitVec.setWidth_eq]
  · intro z hz hqz
    have h1 : (A ||| B).getLsbD z = m.testBit z := by
      rw [hA, hB]
      rw [BitVec.getLsbD_or, BitVec.getLsbD_and, BitVec.getLsbD_and, BitVec.getLsbD_not, BitVec.getLsbD_ofNat, BitVec.getLsbD_ofNat, BitVec.getLsbD_ofNat, hqz]
      cases m.testBit z <;> simp [hz]
    exact h1
end Go.Proofs.YthbkdbnalkeieaaDoor
