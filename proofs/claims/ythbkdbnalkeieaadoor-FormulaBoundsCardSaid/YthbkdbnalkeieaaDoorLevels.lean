/- The signs' maps: levels, and what a look-up in them answers. -/
import Derived.Test.YthbkdbnalkeieaaDoorRead
import Derived.Maps.OwnSet
namespace Go.Proofs.YthbkdbnalkeieaaDoor
open Go.RowKit Go.Sort Go.Shelf Go.Maps Go.MapKept Go.ChangeMaps

def mapOf (k : Nat) : Obj :=
  if k = 0 then .map #[⟨.int .u8 124, .int .i64 6, 0⟩] 1 else if k = 1 then .map #[⟨.int .u8 94, .int .i64 5, 0⟩] 1 else .map #[⟨.int .u8 38, .int .i64 3, 0⟩, ⟨.int .u8 45, .int .i64 4, 1⟩] 2
/-- The sign of a level, 0: there is none. -/
def signOf (k : Nat) (c : UInt8) : Int :=
  if k = 0 then (if c = 124 then 6 else 0) else if k = 1 then (if c = 94 then 5 else 0) else (if c = 38 then 3 else if c = 45 then 4 else 0)

theorem u8_wf (n : Nat) (h : n < 256) : (Lit.int .u8 n).wf = true := by
  have h1 : ((n : Int)) ≤ 255 := by omega
  simp [Lit.wf, IntKind.min, IntKind.max, IntKind.bits, IntKind.signed]
  omega

theorem look_gen (W : World) (m : Nat) (c : UInt8) (es : Array MapEntry) (clock : Nat) (k : Nat) (h : W.heap[m]? = some (.map es clock))
    (hkey : ∀ e ∈ es.toList, ∃ l, keyOf Tryd.prog 5 e.key = some l)
    (hno : (∀ e ∈ es.toList, e.key ≠ .int .u8 c.toNat) → signOf k c = 0) (hyes : ∀ e ∈ es.toList, e.key = .int .u8 c.toNat → e.val = .int .i64 (signOf k c) ∧ signOf k c ≠ 0) :
    (Instr.lookup 88 (.map (some m)) (.int .u8 c.toNat) true).run Tryd.prog W = .ok (.tuple #[.int .i64 (signOf k c), .bool (decide (signOf k c ≠ 0))]) W := by
  have K : Keyed Tryd.prog 5 := int_keyed Tryd.underlying5
  have hx : keyOf Tryd.prog 5 (.int .u8 c.toNat) = some (.int .u8 c.toNat) := keyOf_int_mk Tryd.underlying5 (u8_wf c.toNat c.toNat_lt)
  rcases K.find W hx es.toList hkey with ⟨h1, h2⟩ | ⟨j, e, h1, h2, h3⟩
  · rw [hno h2]
    simp [Instr.lookup, run_underlying Tryd.underlying88, MapKept.run_getObj_map h, K.check W _ hx, h1, Tryd.zeroValue23, Result.andThen]
  · have he : e ∈ es.toList := List.mem_of_getElem? h2
    obtain ⟨e1, e2⟩ := hyes e he h3
    rw [e1] at h1
    simp [Instr.lookup, run_underlying Tryd.underlying88, MapKept.run_getObj_map h, K.check W _ hx, h1, Result.andThen, e2]
theorem u8_key (n : Nat) (h : n < 256) : ∃ l, keyOf Tryd.prog 5 (.int .u8 n) = some l := ⟨_, keyOf_int_mk Tryd.underlying5 (u8_wf n h)⟩
theorem u8_eq (c : UInt8) (n : Nat) (h : n < 256) : (Value.int .u8 (n : Int) = .int .u8 c.toNat) ↔ c = UInt8.ofNat n := by
  simp only [Value.int.injEq, true_and]
  constructor
  · intro e
    have : c.toNat = n := by omega
    rw [← this]; simp
  · rintro rfl
    simp [Nat.mod_eq_of_lt h]

theorem look_any (W : World) (m : Nat) (c : UInt8) (k : Nat) (h : W.heap[m]? = some (mapOf k)) :
    (Instr.lookup 88 (.map (some m)) (.int .u8 c.toNat) true).run Tryd.prog W = .ok (.tuple #[.int .i64 (signOf k c), .bool (decide (signOf k c ≠ 0))]) W := by
  unfold mapOf at h
  by_cases k0 : k = 0
  · subst k0
    rw [if_pos rfl] at h
    refine look_gen W m c _ _ 0 h ?_ ?_ ?_
    · intro e he; simp at he; subst he; exact u8_key 124 (by decide)
    · intro hn
      have h9 : ¬ c = 124 := fun e => hn ⟨.int .u8 124, .int .i64 6, 0⟩ (by simp) ((u8_eq c 124 (by decide)).2 e)
      simp [signOf, h9]
    · intro e he hk; simp at he; subst he
      have hk2 : c = 124 := (u8_eq c 124 (by decide)).1 hk
      subst hk2; exact ⟨rfl, by decide⟩
  · by_cases k1 : k = 1
    · subst k1
      rw [if_neg (by decide), if_pos rfl] at h
      refine look_gen W m c _ _ 1 h ?_ ?_ ?_
      · intro e he; simp at he; subst he; exact u8_key 94 (by decide)
      · intro hn
        have h9 : ¬ c = 94 := fun e => hn ⟨.int .u8 94, .int .i64 5, 0⟩ (by simp) ((u8_eq c 94 (by decide)).2 e)
        simp [signOf, h9]
      · intro e he hk; simp at he; subst he
        have hk2 : c = 94 := (u8_eq c 94 (by decide)).1 hk
        subst hk2; exact ⟨rfl, by decide⟩
    · rw [if_neg k0, if_neg k1] at h
      refine look_gen W m c _ _ k h ?_ ?_ ?_
      · intro e he; simp at he; rcases he with rfl | rfl
        · exact u8_key 38 (by decide)
        · exact u8_key 45 (by decide)
      · intro hn
        have h1 := hn ⟨.int .u8 38, .int .i64 3, 0⟩ (by simp)
        have h2 := hn ⟨.int .u8 45, .int .i64 4, 1⟩ (by simp)
        have h1' : ¬ c = 38 := fun e => h1 ((u8_eq c 38 (by decide)).2 e)
        have h2' : ¬ c = 45 := fun e => h2 ((u8_eq c 45 (by decide)).2 e)
        simp [signOf, k0, k1, h1', h2']
      · intro e he hk; simp at he; rcases he with rfl | rfl
        · have hk2 : c = 38 := (u8_eq c 38 (by decide)).1 hk
          subst hk2; simp [signOf, k0, k1]
        · have hk2 : c = 45 := (u8_eq c 45 (by decide)).1 hk
          subst hk2; simp [signOf, k0, k1]

theorem upd_new (W : World) (m : Nat) (es : Array MapEntry) (clock : Nat) (n : Nat) (hn : n < 256) (v : Value) (h : W.heap[m]? = some (.map es clock)) (hkey : ∀ e ∈ es.toList, ∃ l, keyOf Tryd.prog 5 e.key = some l) (hno : ∀ e ∈ es.toList, e.key ≠ .int .u8 n) :
    (Instr.mapUpdate 88 (.map (some m)) (.int .u8 n) v).run Tryd.prog W = .ok () (ChangeMaps.setBlock W m (.map (es.push ⟨.int .u8 n, v, clock⟩) (clock + 1))) := by
  have K : Keyed Tryd.prog 5 := int_keyed Tryd.underlying5
  have hx : keyOf Tryd.prog 5 (.int .u8 n) = some (.int .u8 n) := keyOf_int_mk Tryd.underlying5 (u8_wf n hn)
  rcases K.find W hx es.toList hkey with ⟨h1, h2⟩ | ⟨j, e, h1, h2, h3⟩
  · simp [Instr.mapUpdate, run_underlying Tryd.underlying88, MapKept.run_getObj_map h, K.check W false hx, h1, MapKept.run_setObj_map _ h, Result.andThen, ChangeMaps.setBlock]
  · exact absurd h3 (hno e (List.mem_of_getElem? h2))

/-- The signs' maps in memory. -/
def IsLv (w : World) (b : Nat) : Prop := ∃ m : Nat → Nat, w.heap[b]? = some (.cells #[.map (some (m 0)), .map (some (m 1)), .map (some (m 2))] 88 (0, 0)) ∧ ∀ k, k < 3 → w.heap[m k]? = some (mapOf k)

theorem below_setBlock {B : Nat} {w W : World} (h : Below B w W) {m : Nat} (hm : B ≤ m) (o : Obj) : Below B w (ChangeMaps.setBlock W m o) :=
  ⟨h.os, h.tape, h.output, Nat.le_trans h.size (by simp [ChangeMaps.setBlock]), fun i hi => by
    show (W.heap.setIfInBounds m o)[i]? = _
    rw [Array.getElem?_setIfInBounds_ne (by omega)]
    exact h.block i hi⟩
theorem setBlock_at {w : World} {b : Nat} {o : Obj} (o' : Obj) (h : w.heap[b]? = some o) : (ChangeMaps.setBlock w b o').heap[b]? = some o' := by
  show (w.heap.setIfInBounds b o')[b]? = _
  rw [Array.getElem?_setIfInBounds_self_of_lt (lt_of_block h)]
theorem map_one (W : World) (n : Nat) (hn : n < 256) (v : Value) : ∃ W', (Instr.mapUpdate 88 (.map (some W.heap.size)) (.int .u8 n) v).run Tryd.prog (W.alloc (.map #[] 0)) = .ok () W' ∧
    W'.heap[W.heap.size]? = some (.map #[⟨.int .u8 n, v, 0⟩] 1) ∧ Below W.heap.size W W' ∧ W'.heap.size = W.heap.size + 1 := by
  have a0 := block_alloc_new W (.map #[] 0)
  refine ⟨_, upd_new _ _ _ _ n hn v a0 (by simp) (by simp), setBlock_at _ a0, below_setBlock ((Below.refl _ W).alloc (Nat.le_refl _) _) (Nat.le_refl _) _, ?_⟩
  simp [ChangeMaps.setBlock]

set_option maxHeartbeats 1000000 in
set_option maxRecDepth 100000 in
theorem levels_any (w : World) : Calls Tryd.prog 32 #[] w fun e w' => ∃ b, e = .returned (.slice (some ⟨b, 0, none⟩) 3 3) ∧ IsLv w' b ∧ Below w.heap.size w w' ∧ w.heap.size ≤ b := by
  have hmk : ∀ W : World, (Instr.makeMap 88 none).run Tryd.prog W = .ok (.map (some W.heap.size)) (W.alloc (.map #[] 0)) := fun W => rfl
  obtain ⟨W1, e1, h1, b1, z1⟩ := map_one w 124 (by decide) (.int .i64 6)
  obtain ⟨W2, e2, h2, b2, z2⟩ := map_one W1 94 (by decide) (.int .i64 5)
  obtain ⟨W3, e3, h3, b3, z3⟩ := map_one W2 38 (by decide) (.int .i64 3)
  have h3' : W3.heap[W2.heap.size]? = some (.map #[⟨.int .u8 38, .int .i64 3, 0⟩] 1) := h3
  obtain ⟨W4, hW4⟩ : ∃ W4, W4 = ChangeMaps.setBlock W3 W2.heap.size (.map (#[⟨.int .u8 38, .int .i64 3, 0⟩].push ⟨.int .u8 45, .int .i64 4, 1⟩) (1 + 1)) := ⟨_, rfl⟩
  have e4 : (Instr.mapUpdate 88 (.map (some W2.heap.size)) (.int .u8 45) (.int .i64 4)).run Tryd.prog W3 = .ok () W4 := by
    rw [hW4]
    exact upd_new W3 W2.heap.size _ _ 45 (by decide) (.int .i64 4) h3' (by intro e he; simp at he; subst he; exact u8_key 38 (by decide)) (by intro e he; simp at he; subst he; simp)
  have h4 : W4.heap[W2.heap.size]? = some (mapOf 2) := by rw [hW4]; exact setBlock_at _ h3'
  have e1' : (Instr.mapUpdate 88 (.map (some w.heap.size)) (.int .u8 124) (.int .i64 6)).run Tryd.prog (w.alloc (.map #[] 0)) = .ok () W1 := e1
  have e2' : (Instr.mapUpdate 88 (.map (some W1.heap.size)) (.int .u8 94) (.int .i64 5)).run Tryd.prog (W1.alloc (.map #[] 0)) = .ok () W2 := e2
  have e3' : (Instr.mapUpdate 88 (.map (some W2.heap.size)) (.int .u8 38) (.int .i64 3)).run Tryd.prog (W2.alloc (.map #[] 0)) = .ok () W3 := e3
  have b4 : Below W2.heap.size W2 W4 := by rw [hW4]; exact below_setBlock b3 (Nat.le_refl _) _
  have z4 : W4.heap.size = W2.heap.size + 1 := by rw [hW4, ← z3]; simp [ChangeMaps.setBlock]
  have H1 := Lib.hid h1
  have H2 := Lib.hid h2
  have H4 := Lib.hid h4
  have HB1 := Lib.hid b1
  have HB2 := Lib.hid b2
  have HB4 := Lib.hid b4
  have Z1 := Lib.hid z1
  have Z2 := Lib.hid z2
  have Z4 := Lib.hid z4
  clear h1 h2 h3 h3' h4 b1 b2 b3 b4 z1 z2 z3 z4 hW4 e1 e2 e3
  go_enter Tryd.func32, Tryd.ntmps32
  go_wp2
  go_ret
  have b2 : Below w.heap.size w W2 := HB1.out.trans (HB2.out.mono HB1.out.size)
  have b4 : Below w.heap.size w W4 := b2.trans (HB4.out.mono b2.size)
  have b5 : Below W4.heap.size W4 (W4.alloc (.cells #[.map (some w.heap.size), .map (some W1.heap.size), .map (some W2.heap.size)] 88)) := (Below.refl _ W4).alloc (Nat.le_refl _) _
  refine ⟨W4.heap.size, rfl, ⟨fun k => if k = 0 then w.heap.size else if k = 1 then W1.heap.size else W2.heap.size, block_alloc_new W4 _, ?_⟩, b4.trans (b5.mono b4.size), b4.size⟩
  intro k hk
  have hz1 := Z1.out
  have hz2 := Z2.out
  have hz4 := Z4.out
  match k, hk with
  | 0, _ =>
    refine (b5.block _ (by show w.heap.size < _; omega)).trans ((HB4.out.block _ (by show w.heap.size < _; omega)).trans ((HB2.out.block _ (by show w.heap.size < _; omega)).trans H1.out))
  | 1, _ =>
    refine (b5.block _ (by show W1.heap.size < _; omega)).trans ((HB4.out.block _ (by show W1.heap.size < _; omega)).trans H2.out)
  | 2, _ =>
    exact (b5.block _ (by show W2.heap.size < _; omega)).trans H4.out
#print axioms levels_any
end Go.Proofs.YthbkdbnalkeieaaDoor
