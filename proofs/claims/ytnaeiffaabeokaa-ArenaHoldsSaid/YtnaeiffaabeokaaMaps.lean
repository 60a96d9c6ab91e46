/- A map with int keys that the call's own memory holds, told by the list of its pairs: look-up, store, delete, length. -/
import Derived.Test.YtnaeiffaabeokaaBase
import Derived.Maps.OwnSet
namespace Go.Proofs.Ytnaeiffaabeokaa
open Go.RowKit Go.Maps Go.MapKept Go.ChangeMaps

/-- Block m is a map whose pairs are L, in the order in which they came. -/
def HasMap (w : World) (m : Nat) (L : List (Int × Value)) : Prop :=
  ∃ es clock, w.heap[m]? = some (.map es clock) ∧ es.size ≤ maxLen ∧ Stamped es clock ∧ es.toList.map (fun e => (e.key, e.val)) = L.map (fun p => (In p.1, p.2)) ∧ ∀ p ∈ L, (Lit.int .i64 p.1).wf = true

def hasKey (L : List (Int × Value)) (x : Int) : Bool := L.any (fun p => p.1 == x)
def valAt (L : List (Int × Value)) (x : Int) (z : Value) : Value := match L.find? (fun p => p.1 == x) with | some p => p.2 | none => z
def upd (L : List (Int × Value)) (x : Int) (v : Value) : List (Int × Value) := if hasKey L x then L.map (fun p => if p.1 == x then (p.1, v) else p) else L ++ [(x, v)]
def del (L : List (Int × Value)) (x : Int) : List (Int × Value) := L.filter (fun p => !(p.1 == x))

theorem HasMap.keep {w w' : World} {m : Nat} {L : List (Int × Value)} {S : Nat → Prop} (h : HasMap w m L) (hc : Chg S w w') (hS : ¬ S m) : HasMap w' m L := by
  obtain ⟨es, clock, hb, r⟩ := h
  exact ⟨es, clock, hc.keep hb hS, r⟩
theorem HasMap.lt {w : World} {m : Nat} {L : List (Int × Value)} (h : HasMap w m L) : m < w.heap.size := by
  obtain ⟨es, clock, hb, r⟩ := h
  exact lt_of_block hb
theorem HasMap.made (w : World) : HasMap (w.alloc (.map #[] 0)) w.heap.size [] :=
  ⟨#[], 0, block_alloc_new w _, by simp, stamped_empty 0, rfl, by simp⟩

theorem HasMap.nodup {w : World} {m : Nat} {L : List (Int × Value)} (h : HasMap w m L) : (L.map (·.1)).Nodup := by
  obtain ⟨es, clock, hb, hs, hst, hL, hw⟩ := h
  have h3 := hst.2.2
  have e : es.toList.map (·.key) = (L.map (·.1)).map In := by
    have := congrArg (List.map Prod.fst) hL
    simpa [List.map_map, Function.comp_def] using this
  rw [e] at h3
  exact (List.pairwise_map.1 h3).imp (fun hne e => hne (by rw [e]))

theorem HasMap.length {w : World} {m : Nat} {L : List (Int × Value)} (h : HasMap w m L) : L.length ≤ maxLen := by
  obtain ⟨es, clock, hb, hs, hst, hL, hw⟩ := h
  have := congrArg List.length hL
  simp at this
  omega

theorem nodup_at {l : List (Int × Value)} (h : (l.map (·.1)).Nodup) {i j : Nat} {p q : Int × Value} (hi : l[i]? = some p) (hj : l[j]? = some q) (he : p.1 = q.1) : i = j := by
  obtain ⟨hil, rfl⟩ := List.getElem?_eq_some_iff.1 hi
  obtain ⟨hjl, rfl⟩ := List.getElem?_eq_some_iff.1 hj
  have hp := List.pairwise_iff_getElem.1 h
  rcases Nat.lt_trichotomy i j with hlt | rfl | hlt
  · exact absurd (by rw [List.getElem_map, List.getElem_map]; exact he) (hp i j (by simpa using hil) (by simpa using hjl) hlt)
  · rfl
  · exact absurd (by rw [List.getElem_map, List.getElem_map]; exact he.symm) (hp j i (by simpa using hjl) (by simpa using hil) hlt)

theorem hasKey_iff (L : List (Int × Value)) (x : Int) : hasKey L x = true ↔ ∃ p ∈ L, p.1 = x := by simp [hasKey]

section
variable {P : Program} {w : World} {m : Nat} {L : List (Int × Value)} {t k e : TypeId}

theorem In_inj {a b : Int} (h : In a = In b) : a = b := by simpa [In] using h

/-- What a search of the entries finds. -/
theorem HasMap.find (h : HasMap w m L) (hk : P.underlying k = some (.int .i64)) {x : Int} (hx : (Lit.int .i64 x).wf = true) :
    ∃ es clock, w.heap[m]? = some (.map es clock) ∧ es.size ≤ maxLen ∧ Stamped es clock ∧ es.toList.map (fun e => (e.key, e.val)) = L.map (fun p => (In p.1, p.2)) ∧
      ((hasKey L x = false ∧ (Instr.findKey k (In x) es.toList).run P w = .ok none w ∧ ∀ y ∈ es.toList, y.key ≠ In x) ∨
       ∃ j e0 v, hasKey L x = true ∧ (Instr.findKey k (In x) es.toList).run P w = .ok (some (j, v)) w ∧ es[j]? = some e0 ∧ e0.key = In x ∧ e0.val = v ∧ L[j]? = some (x, v) ∧ L.find? (fun p => p.1 == x) = some (x, v)) := by
  have hnd := h.nodup
  obtain ⟨es, clock, hb, hs, hst, hL, hw⟩ := h
  have K : Keyed P k := int_keyed hk
  have hread : ∀ y ∈ es.toList, ∃ l, keyOf P k y.key = some l := by
    intro y hy
    have hm : (y.key, y.val) ∈ es.toList.map (fun e => (e.key, e.val)) := List.mem_map.2 ⟨y, hy, rfl⟩
    rw [hL] at hm
    obtain ⟨p, hp, hpe⟩ := List.mem_map.1 hm
    simp only [Prod.mk.injEq] at hpe
    exact ⟨_, by rw [← hpe.1]; exact keyOf_int_mk hk (hw p hp)⟩
  refine ⟨es, clock, hb, hs, hst, hL, ?_⟩
  rcases K.find w (keyOf_int_mk hk hx) es.toList hread with ⟨h1, h2⟩ | ⟨j, e0, h1, h2, h3⟩
  · refine .inl ⟨?_, h1, h2⟩
    cases hc : hasKey L x
    · rfl
    · exfalso
      obtain ⟨p, hp, rfl⟩ := (hasKey_iff L x).1 hc
      have hm : (In p.1, p.2) ∈ L.map (fun p => (In p.1, p.2)) := List.mem_map.2 ⟨p, hp, rfl⟩
      rw [← hL] at hm
      obtain ⟨y, hy, hye⟩ := List.mem_map.1 hm
      simp only [Prod.mk.injEq] at hye
      exact h2 y hy hye.1
  · have hj : L[j]? = some (x, e0.val) := by
      have := congrArg (fun l => l[j]?) hL
      simp only [List.getElem?_map, h2, Option.map_some] at this
      cases hLj : L[j]? with
      | none => rw [hLj] at this; simp at this
      | some p =>
        rw [hLj] at this
        simp only [Option.map_some, Option.some.injEq, Prod.mk.injEq] at this
        rw [h3] at this
        have e1 := In_inj this.1
        obtain ⟨p1, p2⟩ := p
        simp only at e1 this
        rw [e1, this.2]
    have hmem : (x, e0.val) ∈ L := List.mem_of_getElem? hj
    refine .inr ⟨j, e0, e0.val, (hasKey_iff L x).2 ⟨_, hmem, rfl⟩, h1, by simpa using h2, h3, rfl, hj, ?_⟩
    cases hf : L.find? (fun p => p.1 == x) with
    | none =>
      have := List.find?_eq_none.1 hf _ hmem
      simp at this
    | some q =>
      have hq := List.find?_some hf
      have hqm := List.mem_of_find?_eq_some hf
      simp only [beq_iff_eq] at hq
      obtain ⟨i, hi⟩ := List.getElem?_of_mem hqm
      have hij : i = j := nodup_at hnd hi hj hq
      subst hij
      rw [hi] at hj
      exact hj

theorem HasMap.lookup (h : HasMap w m L) (ht : P.underlying t = some (.map k e)) (hk : P.underlying k = some (.int .i64)) {x : Int} (hx : (Lit.int .i64 x).wf = true) {z : Value} (hz : ∀ w, (zeroValue e).run P w = .ok z w) (c : Bool) :
    (Instr.lookup t (.map (some m)) (In x) c).run P w = .ok (if c then .tuple #[valAt L x z, .bool (hasKey L x)] else valAt L x z) w := by
  have K : Keyed P k := int_keyed hk
  obtain ⟨es, clock, hb, hs, hst, hL, hf⟩ := h.find hk hx
  rcases hf with ⟨h0, h1, h2⟩ | ⟨j, e0, v, h0, h1, h2, h3, h4, h5, h6⟩
  · have hv : valAt L x z = z := by
      have : L.find? (fun p => p.1 == x) = none := List.find?_eq_none.2 (fun p hp => by simpa using List.any_eq_false.1 h0 p hp)
      simp [valAt, this]
    rw [hv, h0]
    simp [Instr.lookup, run_underlying ht, MapKept.run_getObj_map hb, K.check w _ (keyOf_int_mk hk hx), h1, hz, Result.andThen]
  · have hv : valAt L x z = v := by simp [valAt, h6]
    rw [hv, h0]
    simp [Instr.lookup, run_underlying ht, MapKept.run_getObj_map hb, K.check w _ (keyOf_int_mk hk hx), h1, Result.andThen]

theorem Chg.setBlock {S : Nat → Prop} {w w1 : World} (h : Chg S w w1) {b : Nat} (o : Obj) (hb : b < w.heap.size → S b) : Chg S w (ChangeMaps.setBlock w1 b o) :=
  ⟨h.os, h.tape, h.output, Nat.le_trans h.size (by simp [ChangeMaps.setBlock]), fun i hi hS => (heap_setBlock_other' w1 o (fun e => by subst e; exact hS (hb hi))).trans (h.block i hi hS)⟩
where
  heap_setBlock_other' {b i : Nat} (w : World) (o : Obj) (hne : i ≠ b) : (ChangeMaps.setBlock w b o).heap[i]? = w.heap[i]? := by
    show (w.heap.setIfInBounds b o)[i]? = _
    rw [Array.getElem?_setIfInBounds_ne (Ne.symm hne)]

theorem setBlock_same {w : World} {b : Nat} {o : Obj} (o' : Obj) (h : w.heap[b]? = some o) : (ChangeMaps.setBlock w b o').heap[b]? = some o' := by
  show (w.heap.setIfInBounds b o')[b]? = _
  rw [Array.getElem?_setIfInBounds_self_of_lt (lt_of_block h)]

theorem wf_all_upd {x : Int} {v : Value} (hx : (Lit.int .i64 x).wf = true) (hw : ∀ p ∈ L, (Lit.int .i64 p.1).wf = true) : ∀ p ∈ upd L x v, (Lit.int .i64 p.1).wf = true := by
  intro p hp
  unfold upd at hp
  split at hp
  · obtain ⟨q, hq, rfl⟩ := List.mem_map.1 hp
    split
    · exact hw q hq
    · exact hw q hq
  · rcases List.mem_append.1 hp with h | h
    · exact hw p h
    · simp at h; subst h; exact hx

theorem HasMap.wf (h : HasMap w m L) : ∀ p ∈ L, (Lit.int .i64 p.1).wf = true := by
  obtain ⟨es, clock, hb, hs, hst, hL, hw⟩ := h
  exact hw

theorem HasMap.update (h : HasMap w m L) (ht : P.underlying t = some (.map k e)) (hk : P.underlying k = some (.int .i64)) {x : Int} (hx : (Lit.int .i64 x).wf = true) (v : Value) (hlen : L.length < maxLen) :
    ∃ w', (Instr.mapUpdate t (.map (some m)) (In x) v).run P w = .ok () w' ∧ HasMap w' m (upd L x v) ∧ Chg (fun b => b = m) w w' := by
  have K : Keyed P k := int_keyed hk
  have hwf := h.wf
  have hnd := h.nodup
  obtain ⟨es, clock, hb, hs, hst, hL, hf⟩ := h.find hk hx
  have hlen' : es.size = L.length := by have := congrArg List.length hL; simpa using this
  rcases hf with ⟨h0, h1, h2⟩ | ⟨j, e0, v0, h0, h1, h2, h3, h4, h5, h6⟩
  · refine ⟨ChangeMaps.setBlock w m (.map (es.push ⟨In x, v, clock⟩) (clock + 1)), ?_, ⟨es.push ⟨In x, v, clock⟩, clock + 1, setBlock_same _ hb, by simp; omega, stamped_push hst h2, ?_, wf_all_upd hx hwf⟩, (Chg.refl _ w).setBlock _ (fun _ => rfl)⟩
    · simp [Instr.mapUpdate, run_underlying ht, MapKept.run_getObj_map hb, K.check w false (keyOf_int_mk hk hx), h1, MapKept.run_setObj_map _ hb, Result.andThen, ChangeMaps.setBlock]
    · simp [upd, h0, hL]
  · refine ⟨ChangeMaps.setBlock w m (.map (es.modify j (fun e' => { e' with key := In x, val := v })) clock), ?_, ⟨_, clock, setBlock_same _ hb, by simpa using hs, stamped_modify hst _ _ (fun _ _ => rfl) (fun e' _ he' => by rw [h2] at he'; cases he'; exact h3.symm), ?_, wf_all_upd hx hwf⟩, (Chg.refl _ w).setBlock _ (fun _ => rfl)⟩
    · simp [Instr.mapUpdate, run_underlying ht, MapKept.run_getObj_map hb, K.check w false (keyOf_int_mk hk hx), h1, h2, h3, K.stays w (keyOf_int_mk hk hx), MapKept.run_setObj_map _ hb, Result.andThen, ChangeMaps.setBlock]
    · simp only [upd, h0, if_true]
      apply List.ext_getElem?
      intro i
      simp only [List.getElem?_map, Array.getElem?_toList, Array.getElem?_modify]
      have hi := congrArg (fun l => l[i]?) hL
      simp only [List.getElem?_map, Array.getElem?_toList] at hi
      by_cases hji : j = i
      · subst hji
        rw [if_pos rfl, h2, h5]
        simp
      · rw [if_neg hji]
        cases hLi : L[i]? with
        | none => rw [hLi] at hi; simpa using hi
        | some q =>
          rw [hLi] at hi
          have hqx : (q.1 == x) = false := by
            rw [beq_eq_false_iff_ne]
            intro hq
            exact hji (nodup_at hnd h5 hLi hq.symm)
          simp only [Option.map_some, hqx] at hi ⊢
          simpa using hi

theorem HasMap.delete (h : HasMap w m L) (ht : P.underlying t = some (.map k e)) (hk : P.underlying k = some (.int .i64)) {x : Int} (hx : (Lit.int .i64 x).wf = true) (ty : TypeId) :
    ∃ w', (Builtin.delete_ #[t, k] ty #[.map (some m), In x]).run P w = .ok (.tuple #[]) w' ∧ HasMap w' m (del L x) ∧ Chg (fun b => b = m) w w' := by
  have K : Keyed P k := int_keyed hk
  have hwf := h.wf
  have hnd := h.nodup
  obtain ⟨es, clock, hb, hs, hst, hL, hf⟩ := h.find hk hx
  have hwd : ∀ p ∈ del L x, (Lit.int .i64 p.1).wf = true := fun p hp => hwf p (List.mem_filter.1 hp).1
  rcases hf with ⟨h0, h1, h2⟩ | ⟨j, e0, v0, h0, h1, h2, h3, h4, h5, h6⟩
  · have hd : del L x = L := List.filter_eq_self.2 (fun p hp => by simpa using List.any_eq_false.1 h0 p hp)
    refine ⟨ChangeMaps.setBlock w m (.map es clock), ?_, ⟨es, clock, setBlock_same _ hb, hs, hst, by rw [hd]; exact hL, hwd⟩, (Chg.refl _ w).setBlock _ (fun _ => rfl)⟩
    simp [Builtin.delete_, run_underlying ht, MapKept.run_getObj_map hb, K.check w _ (keyOf_int_mk hk hx), h1, MapKept.run_setObj_map _ hb, Result.andThen, ChangeMaps.setBlock]
  · refine ⟨ChangeMaps.setBlock w m (.map (es.eraseIdxIfInBounds j) clock), ?_, ⟨_, clock, setBlock_same _ hb, ?_, stamped_erase hst j, ?_, hwd⟩, (Chg.refl _ w).setBlock _ (fun _ => rfl)⟩
    · simp [Builtin.delete_, run_underlying ht, MapKept.run_getObj_map hb, K.check w _ (keyOf_int_mk hk hx), h1, MapKept.run_setObj_map _ hb, Result.andThen, ChangeMaps.setBlock]
    · unfold Array.eraseIdxIfInBounds
      split
      · simp; omega
      · exact hs
    · have hjl : j < es.size := (Array.getElem?_eq_some_iff.1 h2).1
      have e1 : (es.eraseIdxIfInBounds j).toList = es.toList.eraseIdx j := by
        unfold Array.eraseIdxIfInBounds
        rw [dif_pos hjl]
        simp
      rw [e1, ChangeMaps.map_eraseIdx, hL, ← ChangeMaps.map_eraseIdx]
      congr 1
      -- striking the place of the key strikes the key
      have : ∀ (l : List (Int × Value)) (i : Nat), (l.map (·.1)).Nodup → l[i]? = some (x, v0) → l.eraseIdx i = l.filter (fun p => !(p.1 == x)) := by
        intro l
        induction l with
        | nil => intro i _ hi; simp at hi
        | cons q l ih =>
          intro i hn hi
          simp only [List.map_cons, List.nodup_cons] at hn
          cases i with
          | zero =>
            simp only [List.getElem?_cons_zero, Option.some.injEq] at hi
            subst hi
            simp only [List.eraseIdx_cons_zero, List.filter_cons, beq_self_eq_true, Bool.not_true, Bool.false_eq_true, if_false]
            refine (List.filter_eq_self.2 (fun p hp => ?_)).symm
            simp only [Bool.not_eq_true', beq_eq_false_iff_ne]
            rintro rfl
            exact hn.1 (List.mem_map.2 ⟨p, hp, rfl⟩)
          | succ i =>
            simp only [List.getElem?_cons_succ] at hi
            have hne : (q.1 == x) = false := by
              rw [beq_eq_false_iff_ne]
              rintro rfl
              exact hn.1 (List.mem_map.2 ⟨_, List.mem_of_getElem? hi, rfl⟩)
            simp only [List.eraseIdx_cons_succ, List.filter_cons, hne, Bool.not_false, if_true]
            rw [ih i hn.2 hi]
      exact this L j hnd h5

theorem HasMap.len (h : HasMap w m L) (ht : P.underlying t = some (.map k e)) (ty : TypeId) :
    (Builtin.len_ #[t] ty #[.map (some m)]).run P w = .ok (.int .i64 L.length) w := by
  obtain ⟨es, clock, hb, hs, hst, hL, hw⟩ := h
  have hlen' : es.size = L.length := by have := congrArg List.length hL; simpa using this
  rw [← hlen']
  simp [Builtin.len_, run_underlying ht, MapKept.run_getObj_map hb, goInt, Result.andThen]
end

#print axioms HasMap.delete
#print axioms HasMap.update
end Go.Proofs.Ytnaeiffaabeokaa
