/- FormulaLaws answers true for every input, and its input reads as it did; nothing is asked of the input. -/
import Derived.Test.YthbkdbnalkeieaaDoorLaws
import Derived.Test.YthbkdbnalkeieaaDoorTie
import Derived.Test.YthbkdbnalkeieaaDoorCards
import Derived.OpenShut
import Derived.LaidMore
import Derived.Lay
import Derived.SevenTiedAt
import Derived.Stop.Joined
namespace Go.Proofs.YthbkdbnalkeieaaDoor
theorem wf_u16 {x : Int} (h : (Lit.int .u16 x).wf = true) : 0 ≤ x ∧ x < 65536 := by
  have e1 : IntKind.u16.min = 0 := rfl
  have e2 : IntKind.u16.max = 65535 := rfl
  simp [Lit.wf, e1, e2] at h
  omega
open Go.ChangeShapes Go.WideShapes Go.ChangeAt Go.RowKit Go.Deep

set_option maxRecDepth 100000 in
theorem formulaLaws_lifted (os : Os) (started : os.Started) (H : Type) (enc : TypeId × Value → H) :
    ReturnsInHanded {} Tryd.checked os 6 .any (fun w args => (Rows.formulaLawsSpec.pre enc Tryd.prog Tryd.f6 Rows.formulaLawsRow.domain false w args ∧ laidMetH Tryd.prog Rows.formulaLawsRow.laid w) ∧ sizedMet enc Tryd.prog Tryd.f6 (OpenSpec.ofChange Rows.formulaLawsSpec) false w args)
      (Rows.formulaLawsSpec.post enc Tryd.prog Tryd.f6 false true false false) := by
  refine returnsInHanded_of_change_and (C := Tryd.checked) (X := fun w _ => laidMetH Tryd.prog Rows.formulaLawsRow.laid w) (fun _ _ _ hh h => h.of_heap hh) Tryd.own started (by kernel_rfl) Tryd.func6
    (ChangeSpec.witness_shaped (enc := enc) (C := Tryd.checked) (os := os) (X := fun w _ => laidMetH Tryd.prog Rows.formulaLawsRow.laid w) false (World.laidAll Tryd.prog os Rows.formulaLawsRow.laid) #[.agg #[.int .i64 0, .int .i64 0, .slice none 0 0], .agg #[.int .i64 0, .int .i64 0, .slice none 0 0], .agg #[.int .i64 0, .int .i64 0, .slice none 0 0], .int .u16 0] 8 (World.laidAll_os _ _ _)
      (World.shaped_of_ZipB (by kernel_rfl) (by kernel_rfl)) (by kernel_rfl) (by kernel_rfl) (by kernel_rfl)
      (by rw [MakeChecks.laidMetH_plain _ _ _ (by kernel_rfl)]; exact laidMet_laidAll _ (by kernel_rfl) (by kernel_rfl))) ?_
  intro W base args ds gs before hval0 hW hc _ _ _
  have hval : ∀ (j : Nat) t v, Tryd.f6.params[j]? = some t → args[j]? = some v → Value.okWide Tryd.prog W .any base t v := hval0
  have hW' := hW
  obtain ⟨p, q, hA0, hV, rfl, _, _⟩ := hW
  have hA : DataW.TrodAll enc Tryd.prog W 0 (fun _ => true) true Tryd.f6.params.toList args.toList ds p := hA0
  rw [Tryd.params6] at hA hval
  obtain ⟨v0, v1, v2, v3, d0, d1, d2, d3, p0, p1, p2, p3, rfl, rfl, rfl, h0, h1, h2, h3⟩ := trodAll_four hA
  obtain ⟨rfl, rfl⟩ := trodVars_none hV
  obtain ⟨x, rfl, rfl, rfl, wx⟩ := open_int Tryd.underlying39 (hval 3 39 v3 rfl rfl) h3
  have q0 := okWide_struct Tryd.underlying26 (hval 0 26 v0 rfl rfl)
  have q1 := okWide_struct Tryd.underlying26 (hval 1 26 v1 rfl rfl)
  have q2 := okWide_struct Tryd.underlying26 (hval 2 26 v2 rfl rfl)
  rw [cells26] at q0 q1 q2
  obtain ⟨o0, l0, s0, F0, rfl, hs0, _⟩ := arg_form q0 h0
  obtain ⟨o1, l1, s1, F1, rfl, hs1, _⟩ := arg_form q1 h1
  obtain ⟨o2, l2, s2, F2, rfl, hs2, _⟩ := arg_form q2 h2
  have hx := wf_u16 wx
  obtain ⟨m, rfl⟩ : ∃ m : Nat, x = m := ⟨x.toNat, by omega⟩
  simp only [List.append_nil] at hW'
  have hlt : ∀ x ∈ p0 ++ p1 ++ p2, x.block < W.heap.size := fun x hx => by simpa using hW'.lt x hx
  refine (laws_any o0 l0 o1 l1 o2 l2 F0 F1 F2 s0 s1 s2 m (by omega) W hs0 hs1 hs2).mono fun e W' ⟨he, hb⟩ => ?_
  subst he
  have st : ∀ {v : Value} {d : DataW H} {pp : List MemPlace} (sp : Nat → Bool), DataW.Trod enc Tryd.prog W 0 (fun _ => true) true 26 v d pp → (∀ x ∈ pp, x ∈ p0 ++ p1 ++ p2) → (∀ x ∈ p0 ++ p1 ++ p2, sp x.block = true) → DataW.Trod enc Tryd.prog W' 0 sp true 26 v d pp := fun sp h hin hs =>
    WideElems.Trod_stays Tryd.laidOut (by kernel_rfl) (of_decide_eq_true (by kernel_rfl)) h (fun x hx => hb.same (hlt x (hin x hx))) (fun x hx => hs x (hin x hx))
  exact ⟨_, rfl, post_below (pa := p0 ++ (p1 ++ (p2 ++ []))) (pv := []) hW' (fun _ _ _ => trodAll_mk1 (shut_bool Tryd.underlying4 true))
    (fun sp hs => trodAll_mk4 (st sp h0 (fun x hx => by simp [hx]) hs) (st sp h1 (fun x hx => by simp [hx]) hs) (st sp h2 (fun x hx => by simp [hx]) hs) (shut_int (enc := enc) (P := Tryd.prog) (w := W') (base := 0) (spare := sp) (held := true) Tryd.underlying39 wx)) (fun _ _ => rfl) (by simp) hb (ok_one (by kernel_rfl) rfl (okWide_bool_mk Tryd.underlying4 true))⟩

theorem formulaLaws_holds : Rows.FormulaLawsSaid :=
  OpenClaim.holds_of_wide 6 Tryd.f6 rfl rfl rfl rfl rfl rfl rfl ⟨rfl, rfl, rfl, rfl, rfl⟩ rfl rfl rfl rfl rfl (by kernel_rfl) Tryd.func6 (by kernel_rfl)
    (of_decide_eq_true (by kernel_rfl)) (by unfold Func.isWrapper; first | (rw [if_pos (by decide +kernel)]; kernel_rfl) | (rw [if_neg (by decide +kernel)]; exact ⟨rfl, rfl⟩))
    (fun os started H enc _ => formulaLaws_lifted os started H enc)
theorem formulaLaws_card : Rows.FormulaLawsCardSaid :=
  Claim7.holds_tied_plain_at .later [] [.data, .data, .data] true (true, "d46114a10803d2e5200cf81f09c3f611df98c7d9a6a515a058e866604321210d") true formulaLaws_holds (fun _ h => by cases h) (by kernel_rfl) (fun _ h => by cases h) formulaLaws_row_tie rfl ⟨rfl, rfl⟩ (by kernel_rfl) rfl
    (fun f fn hf hfn => by
      obtain rfl : f = 6 := Option.some.inj ((show Tryd.prog.funcNamed "merestone/merestonelaw22.FormulaLaws" = some 6 by kernel_rfl).symm.trans hf) |>.symm
      obtain rfl : fn = Tryd.f6 := (Option.some.inj (Tryd.func6.symm.trans hfn)).symm
      exact ⟨by kernel_rfl, fun j t ht => by
        rw [Tryd.params6] at ht
        have hm : t ∈ [26, 26, 26, 39] := by simpa using Array.mem_of_getElem? ht
        have hall : ([26, 26, 26, 39].all fun u => !Tryd.prog.wantsStandIn u) = true := by kernel_rfl
        exact (show Tryd.prog.wantsStandIn t = false by simpa using List.all_eq_true.1 hall t hm)⟩)
    (by kernel_rfl)
#print axioms formulaLaws_card
end Go.Proofs.YthbkdbnalkeieaaDoor
