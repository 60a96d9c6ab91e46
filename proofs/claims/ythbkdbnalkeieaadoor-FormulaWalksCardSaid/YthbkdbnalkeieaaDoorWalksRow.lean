/- FormulaWalks answers true for every input, and its input reads as it did; nothing is asked of the input. -/
import Derived.Test.YthbkdbnalkeieaaDoorWalks
import Derived.Test.YthbkdbnalkeieaaDoorArgs
import Derived.Test.YthbkdbnalkeieaaDoorTie
import Derived.Test.YthbkdbnalkeieaaDoorCards
import Derived.OpenShut
import Derived.LaidMore
import Derived.Lay
import Derived.SevenTiedAt
import Derived.Stop.Joined
namespace Go.Proofs.YthbkdbnalkeieaaDoor
open Go.ChangeShapes Go.WideShapes Go.ChangeAt Go.RowKit Go.Deep

set_option maxRecDepth 100000 in
theorem formulaWalks_lifted (os : Os) (started : os.Started) (H : Type) (enc : TypeId × Value → H) :
    ReturnsInHanded {} Tryd.checked os 8 .any (fun w args => (Rows.formulaWalksSpec.pre enc Tryd.prog Tryd.f8 Rows.formulaWalksRow.domain false w args ∧ laidMetH Tryd.prog Rows.formulaWalksRow.laid w) ∧ sizedMet enc Tryd.prog Tryd.f8 (OpenSpec.ofChange Rows.formulaWalksSpec) false w args)
      (Rows.formulaWalksSpec.post enc Tryd.prog Tryd.f8 false true false false) := by
  refine returnsInHanded_of_change_and (C := Tryd.checked) (X := fun w _ => laidMetH Tryd.prog Rows.formulaWalksRow.laid w) (fun _ _ _ hh h => h.of_heap hh) Tryd.own started (by kernel_rfl) Tryd.func8
    (ChangeSpec.witness_shaped (enc := enc) (C := Tryd.checked) (os := os) (X := fun w _ => laidMetH Tryd.prog Rows.formulaWalksRow.laid w) false (World.laidAll Tryd.prog os Rows.formulaWalksRow.laid) #[.agg #[.int .i64 0, .int .i64 0, .slice none 0 0], .agg #[.int .i64 0, .int .i64 0, .slice none 0 0], .int .i64 0] 8 (World.laidAll_os _ _ _)
      (World.shaped_of_ZipB (by kernel_rfl) (by kernel_rfl)) (by kernel_rfl) (by kernel_rfl) (by kernel_rfl)
      (by rw [MakeChecks.laidMetH_plain _ _ _ (by kernel_rfl)]; exact laidMet_laidAll _ (by kernel_rfl) (by kernel_rfl))) ?_
  intro W base args ds gs before hval0 hW hc _ _ _
  have hval : ∀ (j : Nat) t v, Tryd.f8.params[j]? = some t → args[j]? = some v → Value.okWide Tryd.prog W .any base t v := hval0
  have hW' := hW
  obtain ⟨p, q, hA0, hV, rfl, _, _⟩ := hW
  have hA : DataW.TrodAll enc Tryd.prog W 0 (fun _ => true) true Tryd.f8.params.toList args.toList ds p := hA0
  rw [Tryd.params8] at hA hval
  obtain ⟨v0, v1, v2, d0, d1, d2, p0, p1, p2, rfl, rfl, rfl, h0, h1, h2⟩ := trodAll_three hA
  obtain ⟨rfl, rfl⟩ := trodVars_none hV
  obtain ⟨y, rfl, rfl, rfl, wy⟩ := open_int Tryd.underlying3 (hval 2 3 v2 rfl rfl) h2
  have q0 := okWide_struct Tryd.underlying26 (hval 0 26 v0 rfl rfl)
  have q1 := okWide_struct Tryd.underlying26 (hval 1 26 v1 rfl rfl)
  rw [cells26] at q0 q1
  obtain ⟨o0, l0, s0, F0, rfl, hs0, _⟩ := arg_form q0 h0
  obtain ⟨o1, l1, s1, F1, rfl, hs1, _⟩ := arg_form q1 h1
  simp only [List.append_nil] at hW'
  have hlt : ∀ x ∈ p0 ++ p1, x.block < W.heap.size := fun x hx => by simpa using hW'.lt x hx
  refine (walks_any o0 l0 o1 l1 F0 F1 s0 s1 y W hs0 hs1).mono fun e W' ⟨he, hb⟩ => ?_
  subst he
  have st : ∀ {v : Value} {d : DataW H} {pp : List MemPlace} (sp : Nat → Bool), DataW.Trod enc Tryd.prog W 0 (fun _ => true) true 26 v d pp → (∀ x ∈ pp, x ∈ p0 ++ p1) → (∀ x ∈ p0 ++ p1, sp x.block = true) → DataW.Trod enc Tryd.prog W' 0 sp true 26 v d pp := fun sp h hin hs =>
    WideElems.Trod_stays Tryd.laidOut (by kernel_rfl) (of_decide_eq_true (by kernel_rfl)) h (fun x hx => hb.same (hlt x (hin x hx))) (fun x hx => hs x (hin x hx))
  exact ⟨_, rfl, post_below (pa := p0 ++ (p1 ++ [])) (pv := []) hW' (fun _ _ _ => trodAll_mk1 (shut_bool Tryd.underlying4 true))
    (fun sp hs => trodAll_mk3 (st sp h0 (fun x hx => by simp [hx]) hs) (st sp h1 (fun x hx => by simp [hx]) hs) (shut_int (enc := enc) (P := Tryd.prog) (w := W') (base := 0) (spare := sp) (held := true) Tryd.underlying3 wy)) (fun _ _ => rfl) (by simp) hb (ok_one (by kernel_rfl) rfl (okWide_bool_mk Tryd.underlying4 true))⟩

theorem formulaWalks_holds : Rows.FormulaWalksSaid :=
  OpenClaim.holds_of_wide 8 Tryd.f8 rfl rfl rfl rfl rfl rfl rfl ⟨rfl, rfl, rfl, rfl, rfl⟩ rfl rfl rfl rfl rfl (by kernel_rfl) Tryd.func8 (by kernel_rfl)
    (of_decide_eq_true (by kernel_rfl)) (by unfold Func.isWrapper; first | (rw [if_pos (by decide +kernel)]; kernel_rfl) | (rw [if_neg (by decide +kernel)]; exact ⟨rfl, rfl⟩))
    (fun os started H enc _ => formulaWalks_lifted os started H enc)
theorem formulaWalks_card : Rows.FormulaWalksCardSaid :=
  Claim7.holds_tied_plain_at .later [] [.data, .data, .data] true (true, "d46114a10803d2e5200cf81f09c3f611df98c7d9a6a515a058e866604321210d") true formulaWalks_holds (fun _ h => by cases h) (by kernel_rfl) (fun _ h => by cases h) formulaWalks_row_tie rfl ⟨rfl, rfl⟩ (by kernel_rfl) rfl
    (fun f fn hf hfn => by
      obtain rfl : f = 8 := Option.some.inj ((show Tryd.prog.funcNamed "merestone/merestonelaw22.FormulaWalks" = some 8 by kernel_rfl).symm.trans hf) |>.symm
      obtain rfl : fn = Tryd.f8 := (Option.some.inj (Tryd.func8.symm.trans hfn)).symm
      exact ⟨by kernel_rfl, fun j t ht => by
        rw [Tryd.params8] at ht
        have hm : t ∈ [26, 26, 3] := by simpa using Array.mem_of_getElem? ht
        have hall : ([26, 26, 3].all fun u => !Tryd.prog.wantsStandIn u) = true := by kernel_rfl
        exact (show Tryd.prog.wantsStandIn t = false by simpa using List.all_eq_true.1 hall t hm)⟩)
    (by kernel_rfl)
#print axioms formulaWalks_card
end Go.Proofs.YthbkdbnalkeieaaDoor
