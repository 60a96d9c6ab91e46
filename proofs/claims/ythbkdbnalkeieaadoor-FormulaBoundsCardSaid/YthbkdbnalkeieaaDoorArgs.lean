/- A formula that is handed to a law, opened. -/
import Derived.Test.YthbkdbnalkeieaaDoorMem
import Derived.ProofKit
import Derived.Deep.Slices
import Derived.Deep.Strs
namespace Go.Proofs.YthbkdbnalkeieaaDoor
open Go.ChangeShapes Go.WideShapes Go.ChangeAt Go.RowKit Go.Deep

theorem Tryd.own : ownKnob Tryd.prog.godebug = none := by kernel_rfl
theorem Tryd.laidOut : laidOutB Tryd.prog = true := by kernel_rfl
theorem cells26 : Tryd.prog.cellsOf 26 = 3 := by kernel_rfl
theorem cells23 : Tryd.prog.cellsOf 23 = 1 := by kernel_rfl
theorem cells3 : Tryd.prog.cellsOf 3 = 1 := by kernel_rfl
theorem cells24 : Tryd.prog.cellsOf 24 = 1 := by kernel_rfl

/-- Ops and layers are numbers of 64 bits. -/
def Fms.ok : Fms → Prop
  | .nil => True
  | .cons op la of r => (Lit.int .i64 op).wf = true ∧ (Lit.int .i64 la).wf = true ∧ of.ok ∧ r.ok

theorem row_of (w : World) (b : Nat) : ∀ (n off : Nat), (∀ i, i < n → ∃ op la s of, w.cell? ⟨b, off + i * 3, none⟩ = some (In op) ∧ w.cell? ⟨b, off + i * 3 + 1, none⟩ = some (In la) ∧ w.cell? ⟨b, off + i * 3 + 2, none⟩ = some s ∧ SlIs w s of ∧ (Lit.int .i64 op).wf = true ∧ (Lit.int .i64 la).wf = true ∧ of.ok) →
    ∃ F : Fms, F.len = n ∧ RowIs w F b off ∧ F.ok
  | 0, _, _ => ⟨.nil, rfl, trivial, trivial⟩
  | n + 1, off, h => by
    obtain ⟨op, la, s, of, h1, h2, h3, h4, h5, h6, h7⟩ := h 0 (by omega)
    obtain ⟨F, k1, k2, k3⟩ := row_of w b n (off + 3) (fun i hi => by
      have := h (i + 1) (by omega)
      rwa [show off + (i + 1) * 3 = off + 3 + i * 3 by omega] at this)
    exact ⟨.cons op la of F, by simp [Fms.len, k1], ⟨⟨s, by simpa using h1, by simpa using h2, by simpa using h3, h4⟩, k2⟩, h5, h6, h7, k3⟩

set_option maxRecDepth 10000 in
theorem open_form {H : Type} {enc : TypeId × Value → H} {w : World} : ∀ (k fuel : Nat) (cs : List Value) (x : DataW H × List MemPlace), SizeOf.sizeOf x.1 ≤ k → DataW.trod enc Tryd.prog w 0 (fun _ => true) true fuel 26 cs = some x →
    ∃ op la p cap F, cs = [In op, In la, .slice p F.len cap] ∧ SlIs w (.slice p F.len cap) F ∧ (Lit.int .i64 op).wf = true ∧ (Lit.int .i64 la).wf = true ∧ F.ok := by
  intro k
  induction k with
  | zero =>
    intro fuel cs x hk h
    obtain ⟨y0, y1, y2, n, rfl, _⟩ := trod_struct3 Tryd.underlying26 h
    simp at hk
  | succ k ih =>
    intro fuel cs x hk h
    obtain ⟨y0, y1, y2, n, rfl, hl, t0, t1, t2⟩ := trod_struct3 Tryd.underlying26 h
    rw [cells26] at hl
    obtain ⟨c0, c1, c2, rfl⟩ : ∃ c0 c1 c2, cs = [c0, c1, c2] := by
      match cs, hl with
      | [c0, c1, c2], _ => exact ⟨c0, c1, c2, rfl⟩
    simp only [cells23, cells3, cells24, List.drop_zero, List.drop_succ_cons, List.take_succ_cons, List.take_zero] at t0 t1 t2
    obtain ⟨op, e0, _, w0⟩ := DataW.trod_int Tryd.underlying23 t0
    obtain ⟨la, e1, _, w1⟩ := DataW.trod_int Tryd.underlying3 t1
    simp at e0 e1
    subst e0 e1
    rcases open_slice Tryd.underlying24 t2 with ⟨hv, _⟩ | ⟨a, len, cap, m, n', D, Pl, hv, _, hlc, _, hmm, rfl, hi⟩
    · simp at hv
      subst hv
      exact ⟨op, la, none, 0, .nil, rfl, .inl ⟨rfl, none, 0, rfl⟩, w0, w1, trivial⟩
    · simp at hv
      subst hv
      have hml : len ≤ m := by rw [hmm]; split <;> omega
      have hel : ∀ i, i < len → ∃ op la p cap F, w.cell? (a.add (i * 3)) = some (In op) ∧ w.cell? ((a.add (i * 3)).add 1) = some (In la) ∧ w.cell? ((a.add (i * 3)).add 2) = some (.slice p F.len cap) ∧ SlIs w (.slice p F.len cap) F ∧ (Lit.int .i64 op).wf = true ∧ (Lit.int .i64 la).wf = true ∧ F.ok := by
        intro i him
        obtain ⟨cs', hc, ht'⟩ := hi i (by omega)
        rw [cells26] at hc
        obtain ⟨_, hcl, hat⟩ := World.cells?_some hc
        have hsz : SizeOf.sizeOf (D i) ≤ k := by
          have hmem : D i ∈ (List.range len).map D := List.mem_map.2 ⟨i, List.mem_range.2 him, rfl⟩
          have h1 := List.sizeOf_lt_of_mem hmem
          simp at hk
          omega
        obtain ⟨op', la', p', cap', F, rfl, hS, q0, q1, q2⟩ := ih n' cs' (D i, Pl i) hsz ht'
        have e0 := hat 0 (by decide)
        have e1 := hat 1 (by decide)
        have e2 := hat 2 (by decide)
        refine ⟨op', la', p', cap', F, ?_, by simpa using e1, by simpa using e2, hS, q0, q1, q2⟩
        simpa [Addr.add] using e0
      by_cases h0 : len = 0
      · subst h0
        exact ⟨op, la, some a, cap, .nil, rfl, .inl ⟨rfl, some a, cap, rfl⟩, w0, w1, trivial⟩
      · obtain ⟨_, _, _, _, _, hc0, _⟩ := hel 0 (by omega)
        have hspot : a.spot = none := by simpa [Addr.add] using World.cell?_spot hc0
        obtain ⟨b, off, sp⟩ := a
        simp only at hspot
        subst hspot
        have e3 : ∀ i, (⟨b, off, none⟩ : Addr).add (i * 3) = ⟨b, off + i * 3, none⟩ := fun i => by simp [Addr.add]
        obtain ⟨F, f1, f2, f3⟩ := row_of w b len off (fun i hi => by
          obtain ⟨op', la', p', cap', F, g0, g1, g2, g3, g4, g5, g6⟩ := hel i hi
          rw [e3] at g0 g1 g2
          refine ⟨op', la', _, F, g0, ?_, ?_, g3, g4, g5, g6⟩
          · simpa [Addr.add] using g1
          · simpa [Addr.add] using g2)
        subst f1
        exact ⟨op, la, _, cap, F, rfl, .inr ⟨b, off, cap, rfl, f2⟩, w0, w1, f3⟩
#print axioms open_form

/-- A law's formula. -/
theorem arg_form {H : Type} {enc : TypeId × Value → H} {w : World} {v : Value} {d : DataW H} {p : List MemPlace} (hv : ∃ cs, v = .agg cs ∧ cs.size = 3) (h : DataW.Trod enc Tryd.prog w 0 (fun _ => true) true 26 v d p) :
    ∃ op la s F, v = .agg #[.int .i64 op, .int .i64 la, s] ∧ SlIs w s F ∧ (Lit.int .i64 op).wf = true ∧ (Lit.int .i64 la).wf = true ∧ F.ok := by
  obtain ⟨cs, rfl, hcs⟩ := hv
  obtain ⟨fuel, hf⟩ := h
  obtain ⟨op, la, q, cap, F, h1, h2, h3⟩ := open_form _ fuel _ _ (Nat.le_refl _) hf
  have h1' : cs.toList = [In op, In la, .slice q F.len cap] := h1
  have h4 : cs = #[In op, In la, .slice q F.len cap] := by
    rw [← Array.toList_inj]
    exact h1'
  exact ⟨op, la, _, F, by rw [h4], h2, h3⟩

section
variable {H : Type} {enc : TypeId × Value → H} {P : Program}
/-- The row's end where all that is known of the memory is that what lay lies as it lay. -/
theorem post_below {f : Func} {s : ChangeSpec} {apart fresh handsOn again : Bool} {W W' : World} {args : Array Value} {v : Value} {ds gs : List (DataW H)} {before pa pv : List MemPlace}
    (hW : DataW.Whole enc P f.params.toList s.vars apart W args.toList ds gs before)
    (hres : ∀ (b : Nat) (sp : Nat → Bool) (hd : Bool), DataW.TrodAll enc P W' b sp hd f.resultTypes.toList (v.resultList f.resultTypes.size) (s.fn H (ds ++ gs)).results [])
    (hargs : ∀ sp : Nat → Bool, (∀ p ∈ before, sp p.block = true) → DataW.TrodAll enc P W' 0 sp true f.params.toList args.toList (s.fn H (ds ++ gs)).args pa)
    (hvars : ∀ sp : Nat → Bool, (∀ p ∈ before, sp p.block = true) → DataW.TrodVars enc P W' sp s.vars (s.fn H (ds ++ gs)).vars pv)
    (hps : before = pa ++ pv) (hb : Below W.heap.size W W')
    (hok : ∀ (j : Nat) (t : TypeId) (r : Value), f.resultTypes[j]? = some t → (v.resultList f.resultTypes.size)[j]? = some r → Value.okWide P W' .any 0 t r) :
    s.post enc P f apart fresh handsOn again W args v W' := by
  have hlt : ∀ p ∈ before, p.block < W.heap.size := fun p hp => hW.lt p hp
  have hold : ∀ p ∈ before, (fun b => decide (b < W.heap.size)) p.block = true := fun p hp => by simpa using hlt p hp
  refine ⟨ds, gs, before, [], pa, pv, hW, hres _ _ _, hargs _ hold, hvars _ hold, World.keptBut_mono (fun p hp => ⟨hp, ?_⟩) (hb.frame (· ∈ before)), fun _ => ?_⟩
  · rw [hps, List.mem_append] at hp
    exact Or.inr hp
  · obtain ⟨_, _, _, _, _, hz, hn⟩ := hW
    refine ⟨hok, _, _, ([] ++ pa) ++ pv, ⟨[] ++ pa, pv, trodAll_append (hargs _ (fun _ _ => rfl)) (hres _ _ _), hvars _ (fun _ _ => rfl), rfl, ?_, ?_⟩, ?_⟩
    · intro b off hp
      have hin : MemPlace.cell b off ∈ before := by rw [hps]; simpa using hp
      rw [hb.frozen (hlt _ hin)]
      exact hz b off hin
    · intro ha
      have := hn ha
      rw [hps] at this
      simpa using this
    · intro p hp _
      rw [hps]
      simpa using hp
end

end Go.Proofs.YthbkdbnalkeieaaDoor
