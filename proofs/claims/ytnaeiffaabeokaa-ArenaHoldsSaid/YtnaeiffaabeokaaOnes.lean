/- The law's own map: each key with 1. -/
import Derived.Test.YtnaeiffaabeokaaWorks
namespace Go.Proofs.Ytnaeiffaabeokaa
open Go.RowKit Go.Maps Go.MapKept Go.ChangeMaps

section
variable {P : Program} {w : World} {m : Nat} {L : List (Int × Value)} {t k e : TypeId}
theorem find_born (es : Array MapEntry) (clock : Nat) (h : Stamped es clock) (x v : Value) : (es.push ⟨x, v, clock⟩).findIdx? (fun e => (e.born : Int) == (clock : Int)) = some es.size := by
  rw [Array.findIdx?_eq_some_iff_getElem]
  refine ⟨by simp, by simp, fun j hj => ?_⟩
  have hj' : j < es.size := hj
  have := h.1 es[j] (by simp)
  simp only [Array.getElem_push, hj', dif_pos]
  simp
  omega

/-- 'm[x] = v' for a key that is not there, in two steps. -/
theorem HasMap.entry (h : HasMap w m L) (ht : P.underlying t = some (.map k e)) (hk : P.underlying k = some (.int .i64)) {x : Int} (hx : (Lit.int .i64 x).wf = true) {z : Value} (hz : ∀ w, (zeroValue e).run P w = .ok z w) (v : Value) (hno : hasKey L x = false) (hlen : L.length < maxLen) :
    ∃ c w1 w2, (Instr.mapEntry t (.map (some m)) (In x)).run P w = .ok (.tuple #[z, .int .i64 c]) w1 ∧ (Instr.entryStore t (.map (some m)) (.int .i64 c) v).run P w1 = .ok () w2 ∧
      HasMap w2 m (L ++ [(x, v)]) ∧ Chg (fun b => b = m) w w1 ∧ Chg (fun b => b = m) w w2 := by
  have K : Keyed P k := int_keyed hk
  have hwf := h.wf
  obtain ⟨es, clock, hb, hs, hst, hL, hf⟩ := h.find hk hx
  have hlen' : es.size = L.length := by have := congrArg List.length hL; simpa using this
  rcases hf with ⟨h0, h1, h2⟩ | ⟨j, e0, v0, h0, _⟩
  · have hw1 := setBlock_same (.map (es.push ⟨In x, z, clock⟩) (clock + 1)) hb
    refine ⟨clock, ChangeMaps.setBlock w m (.map (es.push ⟨In x, z, clock⟩) (clock + 1)), ChangeMaps.setBlock (ChangeMaps.setBlock w m (.map (es.push ⟨In x, z, clock⟩) (clock + 1))) m (.map ((es.push ⟨In x, z, clock⟩).modify es.size fun e => { e with val := v }) (clock + 1)), ?_, ?_, ⟨_, _, setBlock_same _ hw1, by simp; omega, ?_, ?_, ?_⟩, (Chg.refl _ w).setBlock _ (fun _ => rfl), ((Chg.refl (fun b => b = m) w).setBlock _ (fun _ => rfl)).setBlock _ (fun _ => rfl)⟩
    · simp [Instr.mapEntry, run_underlying ht, MapKept.run_getObj_map hb, K.check w false (keyOf_int_mk hk hx), h1, hz, MapKept.run_setObj_map _ hb, Result.andThen, ChangeMaps.setBlock, goInt]
    · have hf := find_born es clock hst (In x) z
      generalize ChangeMaps.setBlock w m (.map (es.push ⟨In x, z, clock⟩) (clock + 1)) = W1 at hw1 ⊢
      simp [Instr.entryStore, MapKept.run_getObj_map hw1, asInt, asIntOf, hf, MapKept.run_setObj_map _ hw1, Result.andThen, ChangeMaps.setBlock]
    · exact stamped_modify (stamped_push hst h2) _ _ (fun _ _ => rfl) (fun _ _ _ => rfl)
    · have : ((es.push ⟨In x, z, clock⟩).modify es.size fun e => { e with val := v }) = es.push ⟨In x, v, clock⟩ := by
        apply Array.ext
        · simp
        · intro i hi1 hi2
          simp only [Array.getElem_modify, Array.getElem_push]
          by_cases he : i < es.size
          · have : ¬ es.size = i := by omega
            simp [he, this]
          · have : es.size = i := by simp at hi2; omega
            simp [this]
      rw [this]
      simp [hL]
    · intro p hp
      rcases List.mem_append.1 hp with h | h
      · exact hwf p h
      · simp at h; subst h; exact hx
  · rw [hno] at h0; cases h0
end

def ones (T : List Int) : List (Int × Value) := T.map fun x => (x, .int .i64 1)
/-- Block m is the map with 1 at each of T. -/
def IsOnes (w : World) (m : Nat) (T : List Int) : Prop := HasMap w m (ones T)
theorem ones_has (T : List Int) (x : Int) : hasKey (ones T) x = decide (x ∈ T) := by
  rw [Bool.eq_iff_iff, hasKey_iff]
  simp only [ones, List.mem_map, decide_eq_true_eq]
  constructor
  · rintro ⟨_, ⟨y, hy, rfl⟩, rfl⟩; exact hy
  · intro h; exact ⟨_, ⟨x, h, rfl⟩, rfl⟩
theorem ones_val (T : List Int) (x : Int) : valAt (ones T) x (.int .i64 0) = .int .i64 (if x ∈ T then 1 else 0) := by
  unfold valAt
  cases h : (ones T).find? (fun p => p.1 == x) with
  | none =>
    have : x ∉ T := by
      intro hx
      have := List.find?_eq_none.1 h (x, .int .i64 1) (by simp [ones, hx])
      simp at this
    simp [this]
  | some p =>
    have hp := List.mem_of_find?_eq_some h
    have hp2 := List.find?_some h
    simp only [ones, List.mem_map] at hp
    obtain ⟨y, hy, rfl⟩ := hp
    have : y = x := by simpa using hp2
    subst this
    simp [hy]
theorem ones_del (T : List Int) (x : Int) : del (ones T) x = ones (T.filter fun y => !(y == x)) := by
  unfold del ones
  rw [List.filter_map]
  rfl
theorem IsOnes.keep {w w' : World} {m : Nat} {T : List Int} {S : Nat → Prop} (h : IsOnes w m T) (hc : Chg S w w') (hS : ¬ S m) : IsOnes w' m T := HasMap.keep h hc hS
theorem IsOnes.lookup {w : World} {m : Nat} {T : List Int} (h : IsOnes w m T) {x : Int} (hx : (Lit.int .i64 x).wf = true) :
    (Instr.lookup 29 (.map (some m)) (.int .i64 x) false).run Try.prog w = .ok (.int .i64 (if x ∈ T then 1 else 0)) w := by
  have := HasMap.lookup h Try.underlying29 Try.underlying3 hx Try.zeroValue3 false
  simpa [ones_val] using this
theorem IsOnes.update {w : World} {m : Nat} {T : List Int} (h : IsOnes w m T) {x : Int} (hx : (Lit.int .i64 x).wf = true) (hlen : T.length < maxLen) (hno : x ∉ T) :
    ∃ w', (Instr.mapUpdate 29 (.map (some m)) (.int .i64 x) (.int .i64 1)).run Try.prog w = .ok () w' ∧ IsOnes w' m (T ++ [x]) ∧ Chg (fun b => b = m) w w' := by
  obtain ⟨w', h1, h2, h3⟩ := HasMap.update h Try.underlying29 Try.underlying3 hx (.int .i64 1) (by simpa [ones] using hlen)
  refine ⟨w', h1, ?_, h3⟩
  have e : upd (ones T) x (.int .i64 1) = ones (T ++ [x]) := by
    unfold upd
    rw [ones_has, decide_eq_false hno]
    simp [ones]
  rw [e] at h2
  exact h2
theorem IsOnes.entry {w : World} {m : Nat} {T : List Int} (h : IsOnes w m T) {x : Int} (hx : (Lit.int .i64 x).wf = true) (hlen : T.length < maxLen) (hno : x ∉ T) :
    ∃ c w1 w', (Instr.mapEntry 29 (.map (some m)) (.int .i64 x)).run Try.prog w = .ok (.tuple #[.int .i64 0, .int .i64 c]) w1 ∧ (Instr.entryStore 29 (.map (some m)) (.int .i64 c) (.int .i64 1)).run Try.prog w1 = .ok () w' ∧
      IsOnes w' m (T ++ [x]) ∧ Chg (fun b => b = m) w w1 ∧ Chg (fun b => b = m) w w' := by
  obtain ⟨c, w1, w', h1, h2, h3, h4, h5⟩ := HasMap.entry h Try.underlying29 Try.underlying3 hx Try.zeroValue3 (.int .i64 1) (by rw [ones_has, decide_eq_false hno]) (by simpa [ones] using hlen)
  exact ⟨c, w1, w', h1, h2, by simpa [IsOnes, ones] using h3, h4, h5⟩
theorem IsOnes.delete {w : World} {m : Nat} {T : List Int} (h : IsOnes w m T) {x : Int} (hx : (Lit.int .i64 x).wf = true) (ty : TypeId) :
    ∃ w', (Builtin.delete_ #[29, 3] ty #[.map (some m), .int .i64 x]).run Try.prog w = .ok (.tuple #[]) w' ∧ IsOnes w' m (T.filter fun y => !(y == x)) ∧ Chg (fun b => b = m) w w' := by
  obtain ⟨w', h1, h2, h3⟩ := HasMap.delete h Try.underlying29 Try.underlying3 hx ty
  rw [ones_del] at h2
  exact ⟨w', h1, h2, h3⟩
theorem IsOnes.len {w : World} {m : Nat} {T : List Int} (h : IsOnes w m T) (ty : TypeId) : (Builtin.len_ #[29] ty #[.map (some m)]).run Try.prog w = .ok (.int .i64 T.length) w := by
  have := HasMap.len h Try.underlying29 ty
  simpa [ones] using this
end Go.Proofs.Ytnaeiffaabeokaa
