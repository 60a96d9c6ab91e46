/- The arena's set of taken places: its map, and the library's calls on it (maps.Clone, maps.Equal, slices.Sorted of maps.Keys, slices.Clone). -/
import Derived.Test.YtnaeiffaabeokaaMaps
import Derived.Test.YtnaeiffaabeokaaApp
import Derived.Test.YtnaeiffaabeokaaShelf
namespace Go.Proofs.Ytnaeiffaabeokaa
open Go.RowKit Go.Maps Go.MapKept
open Go.WideElems (Fit rd rg)

def pairs (T : List Int) : List (Int × Value) := T.map fun x => (x, .bool true)
/-- Block m is the set T, each with true. -/
def IsSet (w : World) (m : Nat) (T : List Int) : Prop := HasMap w m (pairs T)

theorem pairs_fst (T : List Int) : (pairs T).map (·.1) = T := by simp [pairs, List.map_map, Function.comp_def]
theorem pairs_has (T : List Int) (x : Int) : hasKey (pairs T) x = decide (x ∈ T) := by
  rw [Bool.eq_iff_iff, hasKey_iff]
  simp only [pairs, List.mem_map, decide_eq_true_eq]
  constructor
  · rintro ⟨_, ⟨y, hy, rfl⟩, rfl⟩; exact hy
  · intro h; exact ⟨_, ⟨x, h, rfl⟩, rfl⟩
theorem pairs_val (T : List Int) (x : Int) : valAt (pairs T) x (.bool false) = .bool (decide (x ∈ T)) := by
  unfold valAt
  cases h : (pairs T).find? (fun p => p.1 == x) with
  | none =>
    have : x ∉ T := by
      intro hx
      have := List.find?_eq_none.1 h (x, .bool true) (by simp [pairs, hx])
      simp at this
    simp [this]
  | some p =>
    have h1 := List.find?_some h
    have h2 := List.mem_of_find?_eq_some h
    simp only [pairs, List.mem_map] at h2
    obtain ⟨y, hy, rfl⟩ := h2
    simp only [beq_iff_eq] at h1
    subst h1
    simp [hy]
def addT (T : List Int) (x : Int) : List Int := if x ∈ T then T else T ++ [x]
theorem pairs_upd (T : List Int) (x : Int) : upd (pairs T) x (.bool true) = pairs (addT T x) := by
  unfold upd addT
  rw [pairs_has]
  by_cases h : x ∈ T
  · simp only [h, decide_true, if_true]
    unfold pairs
    rw [List.map_map]
    refine List.map_congr_left fun y _ => ?_
    simp only [Function.comp]
    split <;> rfl
  · simp [h, pairs]
theorem pairs_del (T : List Int) (x : Int) : del (pairs T) x = pairs (T.filter fun y => !(y == x)) := by
  unfold del pairs
  rw [List.filter_map]
  rfl

theorem IsSet.nodup {w : World} {m : Nat} {T : List Int} (h : IsSet w m T) : T.Nodup := by
  have := HasMap.nodup h
  rwa [pairs_fst] at this
theorem IsSet.wf {w : World} {m : Nat} {T : List Int} (h : IsSet w m T) : ∀ x ∈ T, (Lit.int .i64 x).wf = true := fun x hx => HasMap.wf h (x, .bool true) (by simp [pairs, hx])
theorem IsSet.keep {w w' : World} {m : Nat} {T : List Int} {S : Nat → Prop} (h : IsSet w m T) (hc : Chg S w w') (hS : ¬ S m) : IsSet w' m T := HasMap.keep h hc hS

theorem IsSet.lookup {w : World} {m : Nat} {T : List Int} (h : IsSet w m T) {x : Int} (hx : (Lit.int .i64 x).wf = true) :
    (Instr.lookup 43 (.map (some m)) (.int .i64 x) false).run Try.prog w = .ok (.bool (decide (x ∈ T))) w := by
  have := HasMap.lookup h Try.underlying43 Try.underlying3 hx Try.zeroValue4 false
  simpa [pairs_val] using this
theorem IsSet.update {w : World} {m : Nat} {T : List Int} (h : IsSet w m T) {x : Int} (hx : (Lit.int .i64 x).wf = true) (hlen : T.length < maxLen) :
    ∃ w', (Instr.mapUpdate 43 (.map (some m)) (.int .i64 x) (.bool true)).run Try.prog w = .ok () w' ∧ IsSet w' m (addT T x) ∧ Chg (fun b => b = m) w w' := by
  obtain ⟨w', h1, h2, h3⟩ := HasMap.update h Try.underlying43 Try.underlying3 hx (.bool true) (by simpa [pairs] using hlen)
  rw [pairs_upd] at h2
  exact ⟨w', h1, h2, h3⟩
theorem IsSet.delete {w : World} {m : Nat} {T : List Int} (h : IsSet w m T) {x : Int} (hx : (Lit.int .i64 x).wf = true) (ty : TypeId) :
    ∃ w', (Builtin.delete_ #[43, 3] ty #[.map (some m), .int .i64 x]).run Try.prog w = .ok (.tuple #[]) w' ∧ IsSet w' m (T.filter fun y => !(y == x)) ∧ Chg (fun b => b = m) w w' := by
  obtain ⟨w', h1, h2, h3⟩ := HasMap.delete h Try.underlying43 Try.underlying3 hx ty
  rw [pairs_del] at h2
  exact ⟨w', h1, h2, h3⟩
theorem IsSet.len {w : World} {m : Nat} {T : List Int} (h : IsSet w m T) (ty : TypeId) : (Builtin.len_ #[43] ty #[.map (some m)]).run Try.prog w = .ok (.int .i64 T.length) w := by
  have := HasMap.len h Try.underlying43 ty
  simpa [pairs] using this

/-! ### as the kit's datum -/
theorem keyed3 : Keyed Try.prog 3 := int_keyed Try.underlying3
def datumL (T : List Int) : List (Lit × DataW Unit) := T.map fun x => (.int .i64 x, .lit (.bool true))
def datum (T : List Int) : DataW Unit := .map ((datumL T).foldr DataW.insert [])

theorem IsSet.owns {w : World} {m : Nat} {T : List Int} (h : IsSet w m T) : w.ownsMap Try.prog 3 (plainElem Try.prog 4) m T.length (datum T) := by
  have hwf := h.wf
  obtain ⟨es, clock, hb, hs, hst, hL, hw⟩ := h
  have hent : ∀ y ∈ es.toList, ∃ x, x ∈ T ∧ y.key = In x ∧ y.val = .bool true := by
    intro y hy
    have hm : (y.key, y.val) ∈ es.toList.map (fun e => (e.key, e.val)) := List.mem_map.2 ⟨y, hy, rfl⟩
    rw [hL] at hm
    obtain ⟨p, hp, hpe⟩ := List.mem_map.1 hm
    simp only [pairs, List.mem_map] at hp
    obtain ⟨x, hx, rfl⟩ := hp
    simp only [Prod.mk.injEq] at hpe
    exact ⟨x, hx, hpe.1.symm, hpe.2.symm⟩
  have hrd : ∀ (y : MapEntry) (x : Int), x ∈ T → y.key = In x → y.val = .bool true → rd Try.prog 3 (plainElem (H := Unit) Try.prog 4) y = some (.int .i64 x, .lit (.bool true)) := by
    intro y x hx h1 h2
    unfold rd
    rw [h1, h2, keyOf_int_mk Try.underlying3 (hwf x hx), plainElem_bool Try.underlying4]
    rfl
  refine ⟨es, clock, hb, ⟨hs, hst, fun y hy => ?_⟩, ?_, ?_⟩
  · obtain ⟨x, hx, h1, h2⟩ := hent y hy
    exact ⟨_, hrd y x hx h1 h2⟩
  · have := congrArg List.length hL
    simp [pairs] at this
    omega
  · unfold datum datumL
    congr 2
    have : es.toList.map (rg Try.prog 3 (plainElem (H := Unit) Try.prog 4)) = (es.toList.map (fun e => (e.key, e.val))).map (fun p => ((match p.1 with | .int _ x => Lit.int .i64 x | _ => .bool false), (DataW.lit (.bool true) : DataW Unit))) := by
      rw [List.map_map]
      refine List.map_congr_left fun y hy => ?_
      obtain ⟨x, hx, h1, h2⟩ := hent y hy
      simp only [rg, hrd y x hx h1 h2, Option.getD_some, Function.comp, h1]
    rw [this, hL]
    simp [pairs, List.map_map, Function.comp_def]

theorem datum_size (T : List Int) : Maps.size (datum T) = T.length := by
  show ((datumL T).foldr DataW.insert []).length = T.length
  rw [length_sorted]
  simp [datumL]

theorem any_sorted (f : Lit × DataW Unit → Bool) : ∀ l : List (Lit × DataW Unit), (l.foldr DataW.insert []).any f = l.any f
  | [] => rfl
  | x :: l => by rw [List.foldr_cons, Maps.any_insert, any_sorted f l]; rfl
theorem sameKey_int (x y : Int) : (Lit.int .i64 x).sameKey (.int .i64 y) = decide (x = y) := by
  by_cases h : x = y
  · subst h
    rw [decide_eq_true rfl]
    exact WideAt.sameKey_self trivial
  · rw [decide_eq_false h]
    exact Maps.sameKey_ne (by simpa using h)
theorem datum_has (T : List Int) (x : Int) : Maps.has (datum T) (.int .i64 x) = decide (x ∈ T) := by
  show ((datumL T).foldr DataW.insert []).any _ = _
  rw [any_sorted]
  rw [Bool.eq_iff_iff]
  simp [datumL, sameKey_int]

theorem insert_mem (x : Lit × DataW Unit) : ∀ (l : List (Lit × DataW Unit)) (p : Lit × DataW Unit), p ∈ DataW.insert x l ↔ p = x ∨ p ∈ l
  | [], p => by simp [DataW.insert]
  | y :: l, p => by
    unfold DataW.insert
    split
    · simp
    · simp only [List.mem_cons, insert_mem x l]
      constructor
      · rintro (h | h | h) <;> simp [h]
      · rintro (h | h | h) <;> simp [h]
theorem sorted_mem : ∀ (l : List (Lit × DataW Unit)) (p : Lit × DataW Unit), p ∈ l.foldr DataW.insert [] ↔ p ∈ l
  | [], _ => Iff.rfl
  | x :: l, p => by rw [List.foldr_cons, insert_mem, sorted_mem l]; simp

def sameB : DataW Unit → DataW Unit → Bool
  | .lit (.bool x), .lit (.bool y) => x == y
  | _, _ => false
theorem datum_at (T : List Int) (x : Int) (h : x ∈ T) (z : DataW Unit) : (datum T).atKey (.int .i64 x) z = .lit (.bool true) := by
  unfold datum DataW.atKey
  simp only
  cases hf : ((datumL T).foldr DataW.insert []).find? (fun p => p.1.sameKey (.int .i64 x)) with
  | none =>
    have := List.find?_eq_none.1 hf (.int .i64 x, .lit (.bool true)) ((sorted_mem _ _).2 (by simp [datumL, h]))
    simp [sameKey_int] at this
  | some p =>
    have := (sorted_mem _ _).1 (List.mem_of_find?_eq_some hf)
    simp only [datumL, List.mem_map] at this
    obtain ⟨y, _, rfl⟩ := this
    rfl
theorem datum_equal (T U : List Int) : Lib.equalFuncD sameB (datum T) (datum U) = (decide (T.length = U.length) && T.all (fun x => decide (x ∈ U))) := by
  unfold Lib.equalFuncD
  rw [datum_size, datum_size]
  congr 1
  rw [Bool.eq_iff_iff, List.all_eq_true, List.all_eq_true]
  constructor
  · intro h x hx
    have := h (.int .i64 x, .lit (.bool true)) (show _ ∈ (datumL T).foldr DataW.insert [] from (sorted_mem _ _).2 (by simp [datumL, hx]))
    simp only [Lib.goodD, Bool.and_eq_true, datum_has] at this
    exact this.1
  · intro h p hp
    have := (sorted_mem _ _).1 (show p ∈ (datumL T).foldr DataW.insert [] from hp)
    simp only [datumL, List.mem_map] at this
    obtain ⟨x, hx, rfl⟩ := this
    have hu := h x hx
    simp only [decide_eq_true_eq] at hu
    simp only [Lib.goodD, datum_has, datum_at U x hu]
    simp [hu, sameB]

theorem neq_bool (W : World) (x y : Value) (xd yd : DataW Unit) (xp yp : List MemPlace) (hx : plainElem Try.prog 4 x = some (xd, xp)) (hy : plainElem Try.prog 4 y = some (yd, yp)) :
    (binOp .neq 4 x y).run Try.prog W = .ok (.bool (!sameB xd yd)) W ∧ ∀ (a b : Operand), (eqGuard .neq 4 a b x y).run Try.prog W = .ok () W := by
  have inv : ∀ (x : Value) (xd : DataW Unit) xp, plainElem Try.prog 4 x = some (xd, xp) → ∃ b, x = .bool b ∧ xd = .lit (.bool b) := by
    intro x xd xp h
    unfold plainElem at h
    rw [Try.underlying4] at h
    cases x <;> simp at h
    exact ⟨_, rfl, h.1.symm⟩
  obtain ⟨a, rfl, rfl⟩ := inv x xd xp hx
  obtain ⟨b, rfl, rfl⟩ := inv y yd yp hy
  refine ⟨?_, fun _ _ => by rw [eqGuard_at_bool]; rfl⟩
  simp [run_neq_bool _ _ a b Try.underlying4, sameB]
end Go.Proofs.Ytnaeiffaabeokaa
