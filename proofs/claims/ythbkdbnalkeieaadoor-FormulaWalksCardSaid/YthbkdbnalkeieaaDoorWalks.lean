/- The walk of FormulaWalks: it answers true. -/
import Derived.Test.YthbkdbnalkeieaaDoorWalks0
import Derived.Test.YthbkdbnalkeieaaDoorRSame
import Derived.Test.YthbkdbnalkeieaaDoorRCheck
import Derived.Test.YthbkdbnalkeieaaDoorFSame
import Derived.Test.YthbkdbnalkeieaaDoorWorks
import Derived.Test.YthbkdbnalkeieaaDoorLeft
import Derived.Test.YthbkdbnalkeieaaDoorRound2
import Derived.Deep.DeepCutAuto
import Derived.Deep.CutBlock
import Derived.Outline
namespace Go.Proofs.YthbkdbnalkeieaaDoor
open Go.RowKit Go.Sort Go.Shelf

attribute [local go_sem] Oper.semAt_some

/-- The variables of the law: two formulas, a number, the result. -/
structure At8 (w : World) (b0 : Nat) (op la op' la' : Int) (of of' : Fms) (p p' : Option Addr) (cap cap' : Nat) (many : Int) (W : World) : Prop where
  f : FormAt W b0 op la of p cap
  g : FormAt W (b0 + 1) op' la' of' p' cap'
  m : W.heap[b0 + 1 + 1]? = some (.cells #[.int .i64 many] 3 (0, 0))
  r : W.heap[b0 + 1 + 1 + 1]? = some (.cells #[.bool false] 4 (0, 0))
  b : Below b0 w W
theorem At8.later {w : World} {b0 : Nat} {op la op' la' : Int} {of of' : Fms} {p p' : Option Addr} {cap cap' : Nat} {many : Int} {W V : World} (h : At8 w b0 op la op' la' of of' p p' cap cap' many W) (hb : Below W.heap.size W V) (h0 : b0 ≤ W.heap.size) :
    At8 w b0 op la op' la' of of' p p' cap cap' many V :=
  ⟨h.f.later hb, h.g.later hb, (hb.block _ (lt_of_block h.m)).trans h.m, (hb.block _ (lt_of_block h.r)).trans h.r, h.b.trans (hb.mono h0)⟩
theorem At8.new {w : World} {op la op' la' : Int} {of of' : Fms} {p p' : Option Addr} {cap cap' : Nat} {many : Int} (hs : SlIs w (.slice p of.len cap) of) (hs' : SlIs w (.slice p' of'.len cap') of') :
    At8 w w.heap.size op la op' la' of of' p p' cap cap' many ((((w.alloc (.cells #[.int .i64 op, .int .i64 la, .slice p of.len cap] 26)).alloc (.cells #[.int .i64 op', .int .i64 la', .slice p' of'.len cap'] 26)).alloc (.cells #[.int .i64 many] 3)).alloc (.cells #[.bool false] 4)) := by
  have h1 := FormAt.new (op := op) (la := la) hs
  have h2 := FormAt.new (op := op') (la := la') (hs'.later h1.2)
  rw [World.size_alloc] at h2
  have h3 : ∀ (X : World) (o : Obj), Below X.heap.size X (X.alloc o) := fun X o => (Below.refl _ X).alloc (Nat.le_refl _) o
  refine ⟨(((h1.1.later (h3 _ _)).later (h3 _ _)).later (h3 _ _)), (h2.1.later (h3 _ _)).later (h3 _ _), ?_, ?_, ?_⟩
  · have := block_alloc_new ((w.alloc (.cells #[.int .i64 op, .int .i64 la, .slice p of.len cap] 26)).alloc (.cells #[.int .i64 op', .int .i64 la', .slice p' of'.len cap'] 26)) (.cells #[.int .i64 many] 3)
    simp only [World.size_alloc] at this
    exact block_alloc_old _ this
  · have := block_alloc_new (((w.alloc (.cells #[.int .i64 op, .int .i64 la, .slice p of.len cap] 26)).alloc (.cells #[.int .i64 op', .int .i64 la', .slice p' of'.len cap'] 26)).alloc (.cells #[.int .i64 many] 3)) (.cells #[.bool false] 4)
    simp only [World.size_alloc] at this
    exact this
  · exact ((((Below.refl _ w).alloc (Nat.le_refl _) _).alloc (by rw [World.size_alloc]; omega) _).alloc (by simp only [World.size_alloc]; omega) _).alloc (by simp only [World.size_alloc]; omega) _


theorem ownBase {w : World} {B : Nat} {g n c : Nat} {xs : List Value} (h : w.ownsRow B 26 3 (.slice (some ⟨g, 0, none⟩) n c) n xs) : B ≤ g := by
  rcases h.2 with ⟨e, _⟩ | ⟨k, cap, cur, e, hb0, _⟩
  · cases e
  · cases e; exact hb0

/-- A cut around a range over a function: it leaves a mark. -/
theorem wp_cut_mark {P : Program} {s : Code} {K : Act → World → Prop} {Q' : Exit → Act → World → Prop} {tmps : Array Value} {ds : List Deferred} {w : World} (R : Nat → World → Prop)
    (rest : ∀ D w', R D w' → K { tmps := tmps, defers := { target := .collected D, args := #[] } :: ds } w')
    (first : ∀ (Q : Exit → Act → World → Prop) (T : Array Value), Hid (T = tmps) → (∀ D w', R D w' → Q .normal { tmps := T, defers := { target := .collected D, args := #[] } :: ds } w') → s.wp P Q { tmps := T, defers := ds } w) :
    s.wp P (Exit.then K Q') { tmps := tmps, defers := ds } w := by
  refine wp_mono (first (fun e a w => e = .normal ∧ ∃ D, a = { tmps := tmps, defers := { target := .collected D, args := #[] } :: ds } ∧ R D w) tmps (Lib.hid rfl) (fun D w' h => ⟨rfl, D, rfl, h⟩)) ?_
  rintro e a w' ⟨rfl, D, rfl, h⟩
  exact rest D w' h

/-- A mark among the deferred calls. -/
def marks (Ds : List Nat) : List Deferred := Ds.map fun D => { target := .collected D, args := #[] }

/-- The law ends: the result is true. -/
theorem end8 {w : World} {b0 r : Nat} {tmps : Array Value} (h6 : tmps[6]? = some (.pointer (some ⟨r, 0, none⟩))) (hw : b0 = w.heap.size) : ∀ (Ds : List Nat) (W : World), Ds.Nodup → (∀ D ∈ Ds, b0 ≤ D ∧ W.heap[D]? = some (.deferred (some []))) →
    W.heap[r]? = some (.cells #[.bool true] 4 (0, 0)) → Below b0 w W → b0 ≤ W.heap.size →
    LeavesInM Fence.wide 6 Tryd.prog Tryd.f8 tmps (fun e w' => e = .returned (.bool true) ∧ Below w.heap.size w w') (marks Ds) .returning W
  | [], W, _, _, hr, hb, _ => by
    have c : W.cell? ⟨r, 0, none⟩ = some (.bool true) := cell_of hr rfl
    refine ⟨.bool true, ?_, rfl, hw ▸ hb⟩
    simp [results, Tryd.f8, go_sem, h6, c]
  | D :: Ds, W, hn, hD, hr, hb, h0 => by
    obtain ⟨h1, h2⟩ := hD D (by simp)
    have hn' := List.nodup_cons.1 hn
    refine ⟨by simp, .inl ⟨D, _, rfl, run_takeDeferred h2, ?_⟩⟩
    have hrD : r ≠ D := by rintro rfl; rw [h2] at hr; cases hr
    refine end8 h6 hw Ds _ hn'.2 (fun E hE => ⟨(hD E (by simp [hE])).1, ?_⟩) ?_ (hb.trans (belowK_b (w := w) (n₀ := b0) (by omega) _ D _ _ (by omega) h2 rfl rfl)) (by simpa [World.putObj] using h0)
    · exact (World.putObj_heap_other (by rintro rfl; exact hn'.1 hE)).trans (hD E (by simp [hE])).2
    · exact (World.putObj_heap_other hrD).trans hr

set_option maxHeartbeats 4000000 in
set_option maxRecDepth 100000 in
theorem walks_in (op la op' la' : Int) (of of' : Fms) (s s' : Value) (many : Int) (w : World) (hs : SlIs w s of) (hs' : SlIs w s' of') :
    CallsIn Fence.wide 6 Tryd.prog 8 #[.agg #[.int .i64 op, .int .i64 la, s], .agg #[.int .i64 op', .int .i64 la', s'], .int .i64 many] w fun e w' => e = .returned (.bool true) ∧ Below w.heap.size w w' := by
  obtain ⟨p, cap, rfl⟩ := hs.slice
  obtain ⟨p', cap', rfl⟩ := hs'.slice
  have hA := At8.new (op := op) (la := la) (op' := op') (la' := la') (many := many) hs hs'
  obtain ⟨b0, hb0⟩ : ∃ b, b = w.heap.size := ⟨_, rfl⟩
  obtain ⟨W, hW⟩ : ∃ V, V = (((w.alloc (.cells #[.int .i64 op, .int .i64 la, .slice p of.len cap] 26)).alloc (.cells #[.int .i64 op', .int .i64 la', .slice p' of'.len cap'] 26)).alloc (.cells #[.int .i64 many] 3)).alloc (.cells #[.bool false] 4) := ⟨_, rfl⟩
  rw [← hW, ← hb0] at hA
  have HA := Lib.hid hA
  clear hA hs hs'
  refine callsIn_of_wp_marks Tryd.func8 rfl trivial ?_ rfl
  simp only [Tryd.ntmps8, List.size_toArray, List.length_cons, List.length_nil, Nat.reduceAdd, Nat.reduceSub, Array.replicate_succ, Array.replicate_zero, List.push_toArray, List.append_toArray, List.nil_append, List.cons_append]
  refine wpIn_wide.2 ?_
  go_upto_region 1 with fail
  rw [← hW, ← hb0]
  have HB0 := Lib.hid hb0
  clear hW hb0
  obtain ⟨a0, a1, a2⟩ := HA.out.f.c
  have h0 : b0 ≤ W.heap.size := by have := lt_of_block HA.out.f.1; omega
  have HLF := Lib.hid (light_any op la of _ W HA.out.f.2)
  generalize hlt : lightF of = lt at HLF
  cases lt with
  | false =>
    clear hlt
    go_wp2_with fail
    refine HLF.out.mono ?_
    rintro e w1 ⟨rfl, hb1⟩
    have HA1 := Lib.hid (HA.out.later hb1 h0)
    have h1 := hb1.size
    clear hb1 a0 a1 a2 HLF HA
    go_wp2_with fail
    refine (works_any _).mono ?_
    rintro e w2 ⟨rfl, hb2⟩
    have HA2 := Lib.hid (HA1.out.later hb2 (by omega))
    have hb2s := hb2.size
    clear hb2 HA1
    have c6 := cell_of (o := 0) (v := .bool false) HA2.out.r rfl
    have f6 := free_of (o := 0) HA2.out.r
    go_wp2
    exact end8 rfl HB0.out [] _ (by simp) (by simp) (block_setCell (.bool true) HA2.out.r) (HA2.out.b.setCell (p := ⟨b0 + 1 + 1 + 1, 0, none⟩) (show b0 ≤ b0 + 1 + 1 + 1 by omega) (.bool true)) (by have := hb2s; simp; omega)
  | true =>
    have hsz := light_size hlt
    clear hlt
    go_wp2_with fail
    refine HLF.out.mono ?_
    rintro e w1 ⟨rfl, hb1⟩
    have HA1 := Lib.hid (HA.out.later hb1 h0)
    have h1 := hb1.size
    clear hb1 a0 a1 a2 HLF HA
    obtain ⟨a0, a1, a2⟩ := HA1.out.g.c
    have HLG := Lib.hid (light_any op' la' of' _ w1 HA1.out.g.2)
    generalize hlt : lightF of' = lt at HLG
    cases lt with
    | false =>
      clear hlt
      go_wp2_with fail
      refine HLG.out.mono ?_
      rintro e w2 ⟨rfl, hb2⟩
      have HA2 := Lib.hid (HA1.out.later hb2 (by omega))
      have h2 := hb2.size
      clear hb2 a0 a1 a2 HLG HA1
      go_wp2_with fail
      refine (works_any _).mono ?_
      rintro e w3 ⟨rfl, hb3⟩
      have HA3 := Lib.hid (HA2.out.later hb3 (by omega))
      have h3 := hb3.size
      clear hb3 HA2
      have c6 := cell_of (o := 0) (v := .bool false) HA3.out.r rfl
      have f6 := free_of (o := 0) HA3.out.r
      go_wp2
      exact end8 rfl HB0.out [] _ (by simp) (by simp) (block_setCell (.bool true) HA3.out.r) (HA3.out.b.setCell (p := ⟨b0 + 1 + 1 + 1, 0, none⟩) (show b0 ≤ b0 + 1 + 1 + 1 by omega) (.bool true)) (by simp; omega)
    | true =>
      have hsz' := light_size hlt
      clear hlt
      go_wp2_with fail
      refine HLG.out.mono ?_
      rintro e w2 ⟨rfl, hb2⟩
      have HA2 := Lib.hid (HA1.out.later hb2 (by omega))
      have h2 := hb2.size
      clear hb2 a0 a1 a2 HLG HA1
      obtain ⟨bw, hbw⟩ : ∃ b, b = w2.heap.size := ⟨_, rfl⟩
      obtain ⟨X, hX⟩ : ∃ X, X = w2.alloc (.cells #[.slice none 0 0] 24) := ⟨_, rfl⟩
      have hbX : Below w2.heap.size w2 X := by rw [hX]; exact (Below.refl _ w2).alloc (Nat.le_refl _) _
      have HAX := Lib.hid (HA2.out.later hbX (by omega))
      have HWX := Lib.hid (show X.heap[bw]? = some (.cells #[.slice none 0 0] 24 (0, 0)) by rw [hX, hbw]; exact block_alloc_new w2 _)
      have hX0 := hbX.size
      have HBX := Lib.hid hbX
      clear hbX
      obtain ⟨c, hc⟩ : ∃ c, c = chk op la of := ⟨_, rfl⟩
      have hrc := rcheck_any op la of _ X (by omega) HAX.out.f.2
      rw [← hc] at hrc
      have HRC := Lib.hid hrc
      have HC := Lib.hid hc
      clear hrc hc
      obtain ⟨a0, a1, a2⟩ := HAX.out.f.c
      rw [hX] at a0 a1 a2
      go_wp2_with fail
      rw [← hX, ← hbw]
      have HBW := Lib.hid hbw
      clear hX hbw a0 a1 a2
      refine HRC.out.mono ?_
      rintro e w3 ⟨rfl, hb3⟩
      have HA3 := Lib.hid (HAX.out.later hb3 (by omega))
      have HB3 := Lib.hid (HBX.out.trans (hb3.mono hX0))
      have HW3 := Lib.hid ((hb3.block bw (lt_of_block HWX.out)).trans HWX.out)
      have h3 := hb3.size
      clear hb3 HAX HWX HRC
      go_upto_if 26 with fail
      obtain ⟨L, hL⟩ : ∃ L, L = partsF op la of := ⟨_, rfl⟩
      go_cut [8] from 14 to 115 (fun s8 wx => ∃ (fb : Bool) (v : Value), s8 = .bool fb ∧ fb = decide (c = 0) ∧ At8 w b0 op la op' la' of of' p p' cap cap' many wx ∧ wx.heap[bw]? = some (.cells #[v] 24 (0, 0)) ∧ WantAt wx v L ∧ w3.heap.size ≤ wx.heap.size)
      case first =>
        by_cases h0' : c = 0
        · have hp : partsF op la of = (op, la, of) :: (wkR of).toL := by rw [partsF, if_pos (HC.out ▸ h0')]
          rw [hp] at hL
          have HL := Lib.hid hL
          clear hL hp
          subst h0'
          obtain ⟨a0, a1, a2⟩ := HA3.out.f.c
          have HRW := Lib.hid (rwalk_any op la of _ w2 w3 (by omega) HA2.out.f.2 HB3.out)
          go_wp2_with fail
          refine HRW.out.mono ?_
          rintro e w4 ⟨⟨v, xs, rfl, hown, hp⟩, hb4⟩
          obtain ⟨g1, cap1, rfl⟩ := ownsRow_succ hown
          have HW4 := Lib.hid ((hb4.block bw (lt_of_block HW3.out)).trans HW3.out)
          have HOW := Lib.hid hown
          have HPP := Lib.hid hp
          have h4 := hb4.size
          have HB4 := Lib.hid (HB3.out.trans (hb4.mono (by omega)))
          clear hown hp hb4 a0 a1 a2
          have c7 := cell_of (o := 0) (v := .slice none 0 0) HW4.out rfl
          have f7 := free_of (o := 0) HW4.out
          go_wp2
          go_meet
          have hbs : Below w2.heap.size w2 (w4.setCell ⟨bw, 0, none⟩ (.slice (some ⟨g1, 0, none⟩) (of.size + 1) cap1)) := HB4.out.setCell (p := ⟨bw, 0, none⟩) (Nat.le_of_eq HBW.out.symm) _
          have hbw3 := lt_of_block HW3.out
          refine ⟨true, _, rfl, by simp, HA2.out.later hbs (by omega), block_setCell _ HW4.out, ?_, by simpa using h4⟩
          rw [HL.out]
          refine wantAt_rwalk (HOW.out.kept (grownBy_setCell' w4 bw _) (.inr ?_)) HPP.out hbs
          have := HOW.out.lt g1 rfl
          intro e
          have e' : g1 = bw := Option.some.inj e
          have := ownBase HOW.out
          omega
        · have e0 : (c == 0) = false := beq_eq_false_iff_ne.2 h0'
          rw [e0]
          go_wp2
          go_meet
          refine ⟨false, _, rfl, by simp [h0'], HA3.out, HW3.out, ?_, Nat.le_refl _⟩
          rw [hL, partsF, if_neg (HC.out ▸ h0')]
          exact wantAt_nil _
      case rest =>
        obtain ⟨fb, v, rfl, hfb, hA4, hW4, hWA4, h4⟩ := hcut
        have HL := Lib.hid hL
        have HFB := Lib.hid hfb
        clear hL HW3 HA3 hfb
        have HA4 := Lib.hid hA4
        have HW4 := Lib.hid hW4
        have HWA4 := Lib.hid hWA4
        clear hA4 hW4 hWA4
        obtain ⟨a0, a1, a2⟩ := HA4.out.f.c
        have HWK := Lib.hid (Walk_any op la of _ wc (by omega) HA4.out.f.2)
        rw [← HL.out] at HWK
        go_wp2_with fail
        refine HWK.out.mono ?_
        rintro e w5 ⟨⟨fv, rfl, g, lb, Z, xs, rfl, hen, hxs, hZ, hsl, hit⟩, hb5⟩
        have HEN := Lib.hid hen
        have HXS := Lib.hid hxs
        have HZ := Lib.hid hZ
        have HSL := Lib.hid hsl
        have HIT := Lib.hid hit
        have HA5 := Lib.hid (HA4.out.later hb5 (by omega))
        have HW5 := Lib.hid ((hb5.block bw (lt_of_block HW4.out)).trans HW4.out)
        have HWA5 := Lib.hid (HWA4.out.later hb5)
        have h5 := hb5.size
        clear hen hxs hZ hsl hit hb5 a0 a1 a2 HA4 HW4 HWA4 HWK
        obtain ⟨V0, hV0⟩ : ∃ V, V = w5.alloc (.cells #[.int .i64 0] 3) := ⟨_, rfl⟩
        obtain ⟨bt, hbt⟩ : ∃ b, b = w5.heap.size := ⟨_, rfl⟩
        go_wp2
        rw [← hV0, ← hbt]
        refine wp_loop_rounds 3 ?_
        rw [rounds_succ]
        have c10 : V0.heap[bt]? = some (.cells #[.int .i64 0] 3 (0, 0)) := by rw [hV0, hbt]; exact block_alloc_new w5 _
        have hb5 : Below w5.heap.size w5 V0 := by rw [hV0]; exact (Below.refl _ _).alloc (Nat.le_refl _) _
        have HV0 := Lib.hid hV0
        have HBT := Lib.hid hbt
        have HT0 := Lib.hid c10
        have HB50 := Lib.hid hb5
        have d10 := cell_of (o := 0) (v := .int .i64 0) c10 rfl
        clear hV0 hbt c10 hb5
        obtain ⟨pw, capw, rfl, hwap⟩ := HWA5.out
        have HWAP := Lib.hid hwap
        have HLM := Lib.hid (show L.length ≤ 701 by rw [HL.out]; have := partsF_len op la of; omega)
        have HSZ := Lib.hid (show ∀ x ∈ xs, x.val.of.size < 1000000 by
          intro x hx
          have := partsF_size op la of x.val.e (by rw [← HL.out, ← HXS.out]; exact List.mem_map_of_mem hx)
          simp only [Part.e] at this
          omega)
        clear hwap HWA5
        have heq : ∀ W, (binOp BinOp.eql 56 (Value.func (Fn.func g) #[] lb) Value.nilFunc).run Tryd.prog W = .ok (.bool false) W := fun W => by kernel_rfl
        obtain ⟨nb, hnb⟩ : ∃ b, b = V0.heap.size := ⟨_, rfl⟩
        obtain ⟨Y, hY⟩ : ∃ Y, Y = V0.alloc (.cells #[.int .i64 0] 3) := ⟨_, rfl⟩
        have hyn : Y.heap[nb]? = some (.cells #[.int .i64 0] 3 (0, 0)) := by rw [hY, hnb]; exact block_alloc_new V0 _
        have huy : Below V0.heap.size V0 Y := by rw [hY]; exact (Below.refl _ _).alloc (Nat.le_refl _) _
        have HNB := Lib.hid hnb
        have HY := Lib.hid hY
        have HYN := Lib.hid hyn
        have HUY := Lib.hid huy
        clear hnb hY hyn huy
        go_upto_block 2 with fail
        rw [← HY.out, ← HNB.out]
        refine wp_cut_mark (fun D W' => W'.heap[D]? = some (.deferred (some [])) ∧ Y.heap.size ≤ D ∧ ∃ nn : Nat, W'.heap[nb]? = some (.cells #[.int .i64 nn] 3 (0, 0)) ∧ (nn : Int) = min (L.length : Int) (max 1 many) ∧ Below nb V0 W') ?rest0 ?first0
        case first0 =>
          intro Q T HT hQ
          have HQ := Lib.hid hQ
          clear hQ
          refine (wpIn_wide (n := 5)).1 (wpIn_block ?_)
          have hbY : Below w5.heap.size w5 Y := HB50.out.trans (HUY.out.mono (by have := HB50.out.size; omega))
          have HITY := Lib.hid ((HIT.out 4).later hbY)
          have HBY := Lib.hid hbY
          have hxl : xs.length = L.length := by rw [← HXS.out, List.length_map]
          clear hbY
          refine range_lawX (n := 5) rfl (by omega) (gf := g) (lb := lb) (by rw [HT.out]; rfl) trivial HEN.out HITY.out (fun h k => h.t k) (fun W l o o' hl ho => KpT.put W l o o' hl ho) (fun _ => rfl)
            (fun (pre : List LP) W => Boxed W nb 3 (.int .i64 (pre.length : Nat)) ∧ (pre.length : Int) < max 1 many ∧ Below nb V0 W)
            (fun c (pre : List LP) W => c = .exit 2 ∧ Boxed W nb 3 (.int .i64 (pre.length : Nat)) ∧ (pre.length : Int) = max 1 many ∧ Below nb V0 W) ?hI0 ?hIx0 ?h00
            (fun D x a' W => ∃ Bx, D ≤ Bx ∧ W.heap[Bx]? = some (.cells #[In x.val.op, In x.val.la, .slice x.val.p x.val.of.len x.val.cap] 26 (0, 0)) ∧ a' = { tmps := (Array.setIfInBounds T 38 x.val.v).setIfInBounds 12 (.pointer (some ⟨Bx, 0, none⟩)), defers := [] })
            ?hAx0 ?assign0 ?body0 ?done0 ?stop0
          case hI0 => exact OwnFrom.and (Own.from (boxed_own nb 3 (fun pre : List LP => .int .i64 (pre.length : Nat))) _) (OwnFrom.and (ownFrom_pure _ _) (ownFrom_below (Nat.le_of_eq HNB.out) (by have := lt_of_block HYN.out; omega)))
          case hIx0 =>
            intro c
            exact OwnFrom.and (ownFrom_pure _ _) (OwnFrom.and (Own.from (boxed_own nb 3 (fun pre : List LP => .int .i64 (pre.length : Nat))) _) (OwnFrom.and (ownFrom_pure _ _) (ownFrom_below (Nat.le_of_eq HNB.out) (by have := lt_of_block HYN.out; omega))))
          case h00 => exact ⟨HYN.out, by have := Int.le_max_left 1 many; simp; omega, by rw [HNB.out]; exact HUY.out⟩
          case hAx0 =>
            rintro D x a' W l o o' ⟨Bx, h1, h2, h3⟩ hl ho
            refine ⟨Bx, h1, ?_, h3⟩
            have hne : Bx ≠ l := by rintro rfl; rw [h2] at hl; cases hl; simp [Obj.isCells] at ho
            rw [World.putObj_heap_other hne]
            exact h2
          case assign0 =>
            rintro l pre x W K ⟨hbx, hpr, hBw⟩ hK
            simp only [Part.v]
            have hnbW : nb ≤ W.heap.size := by have := lt_of_block (show W.heap[nb]? = _ from hbx); omega
            have HT' := HT.out
            rw [HT.out]
            clear HT'
            gi_wp2
            exact hK _ _ (KeepsOthers.alloc _ _) (KpT.below ((Below.refl _ W).alloc (Nat.le_refl _) _)) ⟨hbx.alloc _, hpr, hBw.alloc hnbW _⟩ ⟨W.heap.size, Nat.le_refl _, block_alloc_new W _, by rw [HT.out]; rfl⟩
          case body0 =>
            rintro l D pre x a' W ⟨hbx, hpr, hBw⟩ ⟨Bx, hD, hx, rfl⟩ hlt hpN
            have hnbW : nb < W.heap.size := lt_of_block (show W.heap[nb]? = _ from hbx)
            have hUn : nb = V0.heap.size := HNB.out
            have h5U : w5.heap.size ≤ V0.heap.size := HB50.out.size
            have hBU : Below V0.heap.size V0 W := by rw [← hUn]; exact hBw
            have h5W : Below w5.heap.size w5 W := HB50.out.trans (hBU.mono h5U)
            have hAW := HA5.out.later h5W (by omega)
            have hwW := (h5W.block bw (lt_of_block HW5.out)).trans HW5.out
            have hLx : L[pre.length]? = some (x.val.op, x.val.la, x.val.of) := by
              obtain ⟨r, hr⟩ := hpN
              rw [← HXS.out, ← hr]
              simp [Part.e]
            obtain ⟨_, _, e, hwa⟩ := WantAt.later (w := w5) (V := W) ⟨pw, capw, rfl, HWAP.out⟩ h5W
            cases e
            obtain ⟨bq, oq, rfl, q, cq, k0, k1, k2, hq⟩ := hwa _ _ _ _ hLx
            have hxm : x ∈ xs := hpN.subset (by simp)
            have hlen : pre.length < L.length := (List.getElem?_eq_some_iff.1 hLx).1
            have hsx : SlIs W (.slice x.val.p x.val.of.len x.val.cap) x.val.of := ((HSL.out x hxm).is).later h5W
            have hsz1 := HSZ.out x hxm
            have K1 : Hid (∀ y : Ext W, Calls Tryd.prog 13 #[.agg #[.int .i64 x.val.op, .int .i64 x.val.la, .slice x.val.p x.val.of.len x.val.cap], .agg #[.int .i64 x.val.op, .int .i64 x.val.la, .slice q x.val.of.len cq]] y.w fun e w' => e = .returned (.bool true) ∧ ∃ z : Ext W, w' = z.w) :=
              Lib.hid fun y => y.calls (by
                have := rsame_any x.val.op x.val.la x.val.of x.val.op x.val.la x.val.of _ _ y.w (by omega) (hsx.later y.b) (hq.later y.b)
                rwa [(sameF_iff _ _ _ _ _ _).2 ⟨rfl, rfl, rfl⟩] at this)
            have z1 := fun y : Ext W => Ext.cell (cell_of (o := 0) (v := .int .i64 (pre.length : Nat)) (show W.heap[nb]? = _ from hbx) rfl) y
            have z2 := fun y : Ext W => Ext.cell (cell_of (o := 0) hwW rfl) y
            have z3 := fun y : Ext W => Ext.cell (cell_of (o := 0) (v := In x.val.op) hx rfl) y
            have z4 := fun y : Ext W => Ext.cell (cell_of (o := 1) (v := In x.val.la) hx rfl) y
            have z5 := fun y : Ext W => Ext.cell (cell_of (o := 2) (v := .slice x.val.p x.val.of.len x.val.cap) hx rfl) y
            have z6 := fun y : Ext W => Ext.cell k0 y
            have z7 := fun y : Ext W => Ext.cell k1 y
            have z8 := fun y : Ext W => Ext.cell k2 y
            have hbtW := (hBU.block bt (lt_of_block HT0.out)).trans HT0.out
            have HAW := Lib.hid hAW
            have HBU := Lib.hid hBU
            have HBX := Lib.hid (show W.heap[nb]? = _ from hbx)
            have HBTW := Lib.hid hbtW
            have HPR := Lib.hid hpr
            have hd1 : decide (L.length ≤ pre.length) = false := decide_eq_false (by omega)
            have hprL : pre.length + 1 ≤ 1000000 := by have := HLM.out; omega
            clear hLx hsx hsz1 hq k0 k1 k2 hwW hAW hBU hx hbx hbtW hBw h5W hpr hUn hxl
            rw [HT.out]
            gi_wp2
            simp only [Part.v, List.setIfInBounds_toArray, List.set_cons_succ, List.set_cons_zero]
            refine wpIn_region_quiet_round_lit (fun X => ∃ y : Ext W, X = y.w) (by kernel_rfl) (by kernel_rfl) (by kernel_rfl) ⟨Ext.drew W, rfl⟩ ?_
            repeat (go_big_quiet_step ((go_at_call 13; exact K1.out _)))
            refine wpQuiet_nil ?_
            rintro _ ⟨y, rfl⟩
            obtain ⟨W1, hW1⟩ : ∃ V, V = y.w := ⟨_, rfl⟩
            have hyb : Below W.heap.size W W1 := by rw [hW1]; exact y.b
            rw [← hW1]
            clear hW1 y z1 z2 z3 z4 z5 z6 z7 z8 K1
            have hnb1 := (hyb.block nb hnbW).trans HBX.out
            have hbt1 := (hyb.block bt (lt_of_block HBTW.out)).trans HBTW.out
            have hm1 := (hyb.block _ (lt_of_block HAW.out.m)).trans HAW.out.m
            have z1 := cell_of (o := 0) (v := .int .i64 (pre.length : Nat)) hnb1 rfl
            have z2 := free_of (o := 0) hnb1
            have z3 := cell_of (o := 0) (v := .int .i64 0) hbt1 rfl
            have z4 := cell_of (o := 0) (v := .int .i64 many) hm1 rfl
            have hne : bt ≠ nb := by have := lt_of_block HT0.out; have := HNB.out; omega
            have hne2 : b0 + 1 + 1 ≠ nb := by have := lt_of_block HA5.out.m; have := HNB.out; omega
            have z3' := (World.cell?_setCell_far W1 ⟨nb, 0, none⟩ ⟨bt, 0, none⟩ (.int .i64 ((pre.length : Int) + 1)) (Ne.symm hne)).trans z3
            have z4' := (World.cell?_setCell_far W1 ⟨nb, 0, none⟩ ⟨b0 + 1 + 1, 0, none⟩ (.int .i64 ((pre.length : Int) + 1)) (Ne.symm hne2)).trans z4
            have hset : Boxed (W1.setCell ⟨nb, 0, none⟩ (.int .i64 ((pre.length : Int) + 1))) nb 3 (.int .i64 ((pre ++ [x]).length : Nat)) := by
              have := block_setCell (b := nb) (o := 0) (.int .i64 ((pre.length : Int) + 1)) hnb1
              simpa [Boxed] using this
            have hcs : Chg (fun k => k = nb) W (W1.setCell ⟨nb, 0, none⟩ (.int .i64 ((pre.length : Int) + 1))) := (Chg.of_below (S := fun k => k = nb) hyb).setCell (p := ⟨nb, 0, none⟩) (fun _ => rfl) _
            have HSET := Lib.hid hset
            have HKO := Lib.hid (show KeepsOthers W (W1.setCell ⟨nb, 0, none⟩ (.int .i64 ((pre.length : Int) + 1))) from KeepsOthers.trans ⟨hyb.size, fun i o hi _ => (hyb.block i (lt_of_block hi)).trans hi⟩ (KeepsOthers.setCell _ _ _))
            have HKT := Lib.hid (KpT.chg (Z := Z) hcs (fun k hk hz => by have := (HZ.out k hz).2; have := HNB.out; omega) (fun k cs fr hk e => by subst hk; rw [HBX.out] at e; cases e))
            have HBN := Lib.hid (show Below nb V0 (W1.setCell ⟨nb, 0, none⟩ (.int .i64 ((pre.length : Int) + 1))) from ((HNB.out ▸ HBU.out).trans (hyb.mono (by omega))).setCell (p := ⟨nb, 0, none⟩) (Nat.le_refl _) _)
            clear hset hcs hyb hnb1 hbt1 hm1 hne hne2
            by_cases hmn : many ≤ (pre.length : Int) + 1
            · gi_wp2
              exact ⟨HKO.out, HKT.out, rfl, HSET.out, by have := HPR.out; simp; omega, HBN.out⟩
            · gi_wp2
              exact ⟨HKO.out, HKT.out, HSET.out, by have := HPR.out; simp; omega, HBN.out⟩
          case done0 =>
            rintro D ys W hD rfl ⟨hbx, hpr, hBw⟩ hK
            refine HQ.out D W ⟨hK, hD, _, hbx, ?_, hBw⟩
            rw [hxl] at hpr ⊢; omega
          case stop0 =>
            rintro D c pre W hD hpre ⟨rfl, hbx, hpr, hBw⟩ hK
            have hle := hpre.length_le
            rw [hxl] at hle
            have hq := HQ.out D W ⟨hK, hD, _, hbx, by rw [hpr]; omega, hBw⟩
            gi_wp2
            exact hq
        case rest0 =>
          intro D0 W1 ⟨hK, hD, nn, hbx, hnn, hBw⟩
          have hUn : nb = V0.heap.size := HNB.out
          have h5U : w5.heap.size ≤ V0.heap.size := HB50.out.size
          have hBU : Below V0.heap.size V0 W1 := by rw [← hUn]; exact hBw
          have h5W : Below w5.heap.size w5 W1 := HB50.out.trans (hBU.mono h5U)
          have hAW := HA5.out.later h5W (by omega)
          have hwW := (h5W.block bw (lt_of_block HW5.out)).trans HW5.out
          have hbtW := (hBU.block bt (lt_of_block HT0.out)).trans HT0.out
          have z1 := cell_of (o := 0) (v := .int .i64 (nn : Nat)) hbx rfl
          have z2 := cell_of (o := 0) hwW rfl
          have z3 := cell_of (o := 0) (v := .int .i64 0) hbtW rfl
          have z4 := cell_of (o := 0) (v := .int .i64 many) hAW.m rfl
          have HNN := Lib.hid hnn
          have HK0 := Lib.hid hK
          have HD0 := Lib.hid hD
          have HAW := Lib.hid hAW
          have HBU := Lib.hid hBU
          have HBX := Lib.hid hbx
          have H5W := Lib.hid h5W
          clear hK hD hnn hbx hBw hUn hBU h5W hAW hwW hbtW
          
          have hnq : ((nn : Int) != min (L.length : Int) (max 1 many)) = false := by rw [HNN.out]; simp
          go_wp2_with fail
          obtain ⟨bt1, hbt⟩ : ∃ b, b = W1.heap.size := ⟨_, rfl⟩
          obtain ⟨U1, hU⟩ : ∃ U, U = W1.alloc (.cells #[.int .i64 1] 3) := ⟨_, rfl⟩
          have c10 : U1.heap[bt1]? = some (.cells #[.int .i64 1] 3 (0, 0)) := by rw [hU, hbt]; exact block_alloc_new W1 _
          have hb1 : Below W1.heap.size W1 U1 := by rw [hU]; exact (Below.refl _ _).alloc (Nat.le_refl _) _
          rw [← hU, ← hbt]
          have HB51 := Lib.hid (H5W.out.trans (hb1.mono H5W.out.size))
          have HT1 := Lib.hid c10
          have HBU1 := Lib.hid hb1
          have hk0 := (hb1.block D0 (lt_of_block HK0.out)).trans HK0.out
          have HDK0 := Lib.hid hk0
          have HDB0 := Lib.hid (show b0 ≤ D0 by have h1 := HD0.out; have h2 := HUY.out.size; have h3 := HB50.out.size; omega)
          
          
          rw [rounds_succ]
          have d10 := cell_of (o := 0) (v := .int .i64 1) c10 rfl
          clear hU hbt c10 hb1 z1 z2 z3 z4 hnq hk0 HAW HBU HBX H5W HNN HNB HY HYN HUY HK0 HD0
          obtain ⟨nb, hnb⟩ : ∃ b, b = U1.heap.size := ⟨_, rfl⟩
          obtain ⟨Y, hY⟩ : ∃ Y, Y = U1.alloc (.cells #[.int .i64 0] 3) := ⟨_, rfl⟩
          have hyn : Y.heap[nb]? = some (.cells #[.int .i64 0] 3 (0, 0)) := by rw [hY, hnb]; exact block_alloc_new U1 _
          have huy : Below U1.heap.size U1 Y := by rw [hY]; exact (Below.refl _ _).alloc (Nat.le_refl _) _
          have HNB := Lib.hid hnb
          have HY := Lib.hid hY
          have HYN := Lib.hid hyn
          have HUY := Lib.hid huy
          clear hnb hY hyn huy
          go_upto_block 2 with fail
          rw [← HY.out, ← HNB.out]
          refine wp_cut_mark (fun D W' => W'.heap[D]? = some (.deferred (some [])) ∧ Y.heap.size ≤ D ∧ ∃ nn : Nat, W'.heap[nb]? = some (.cells #[.int .i64 nn] 3 (0, 0)) ∧ nn = L.length ∧ Below nb U1 W') ?rest1 ?first1
          case first1 =>
            intro Q T HT hQ
            have HQ := Lib.hid hQ
            clear hQ
            refine (wpIn_wide (n := 5)).1 (wpIn_block ?_)
            have hbY : Below w5.heap.size w5 Y := HB51.out.trans (HUY.out.mono (by have := HB51.out.size; omega))
            have HITY := Lib.hid ((HIT.out 4).later hbY)
            have HBY := Lib.hid hbY
            have hxl : xs.length = L.length := by rw [← HXS.out, List.length_map]
            clear hbY
            refine range_lawX (n := 5) rfl (by omega) (gf := g) (lb := lb) (by rw [HT.out]; rfl) trivial HEN.out HITY.out (fun h k => h.t k) (fun W l o o' hl ho => KpT.put W l o o' hl ho) (fun _ => rfl)
              (fun (pre : List LP) W => Boxed W nb 3 (.int .i64 (pre.length : Nat)) ∧ True ∧ Below nb U1 W)
              (fun c (pre : List LP) W => False) ?hI1 ?hIx1 ?h01
              (fun D x a' W => ∃ Bx, D ≤ Bx ∧ W.heap[Bx]? = some (.cells #[In x.val.op, In x.val.la, .slice x.val.p x.val.of.len x.val.cap] 26 (0, 0)) ∧ a' = { tmps := (Array.setIfInBounds T 38 x.val.v).setIfInBounds 12 (.pointer (some ⟨Bx, 0, none⟩)), defers := [] })
              ?hAx1 ?assign1 ?body1 ?done1 ?stop1
            case hI1 => exact OwnFrom.and (Own.from (boxed_own nb 3 (fun pre : List LP => .int .i64 (pre.length : Nat))) _) (OwnFrom.and (ownFrom_pure _ _) (ownFrom_below (Nat.le_of_eq HNB.out) (by have := lt_of_block HYN.out; omega)))
            case hIx1 =>
              exact fun c => ownFrom_pure _ _
            
            case h01 => exact ⟨HYN.out, trivial, by rw [HNB.out]; exact HUY.out⟩
            case hAx1 =>
              rintro D x a' W l o o' ⟨Bx, h1, h2, h3⟩ hl ho
              refine ⟨Bx, h1, ?_, h3⟩
              have hne : Bx ≠ l := by rintro rfl; rw [h2] at hl; cases hl; simp [Obj.isCells] at ho
              rw [World.putObj_heap_other hne]
              exact h2
            case assign1 =>
              rintro l pre x W K ⟨hbx, hpr, hBw⟩ hK
              simp only [Part.v]
              have hnbW : nb ≤ W.heap.size := by have := lt_of_block (show W.heap[nb]? = _ from hbx); omega
              have HT' := HT.out
              rw [HT.out]
              clear HT'
              gi_wp2
              exact hK _ _ (KeepsOthers.alloc _ _) (KpT.below ((Below.refl _ W).alloc (Nat.le_refl _) _)) ⟨hbx.alloc _, hpr, hBw.alloc hnbW _⟩ ⟨W.heap.size, Nat.le_refl _, block_alloc_new W _, by rw [HT.out]; rfl⟩
            case body1 =>
              rintro l D pre x a' W ⟨hbx, hpr, hBw⟩ ⟨Bx, hD, hx, rfl⟩ hlt hpN
              have hnbW : nb < W.heap.size := lt_of_block (show W.heap[nb]? = _ from hbx)
              have hUn : nb = U1.heap.size := HNB.out
              have h5U : w5.heap.size ≤ U1.heap.size := HB51.out.size
              have hBU : Below U1.heap.size U1 W := by rw [← hUn]; exact hBw
              have h5W : Below w5.heap.size w5 W := HB51.out.trans (hBU.mono h5U)
              have hAW := HA5.out.later h5W (by omega)
              have hwW := (h5W.block bw (lt_of_block HW5.out)).trans HW5.out
              have hLx : L[pre.length]? = some (x.val.op, x.val.la, x.val.of) := by
                obtain ⟨r, hr⟩ := hpN
                rw [← HXS.out, ← hr]
                simp [Part.e]
              obtain ⟨_, _, e, hwa⟩ := WantAt.later (w := w5) (V := W) ⟨pw, capw, rfl, HWAP.out⟩ h5W
              cases e
              obtain ⟨bq, oq, rfl, q, cq, k0, k1, k2, hq⟩ := hwa _ _ _ _ hLx
              have hxm : x ∈ xs := hpN.subset (by simp)
              have hlen : pre.length < L.length := (List.getElem?_eq_some_iff.1 hLx).1
              have hsx : SlIs W (.slice x.val.p x.val.of.len x.val.cap) x.val.of := ((HSL.out x hxm).is).later h5W
              have hsz1 := HSZ.out x hxm
              have K1 : Hid (∀ y : Ext W, Calls Tryd.prog 13 #[.agg #[.int .i64 x.val.op, .int .i64 x.val.la, .slice x.val.p x.val.of.len x.val.cap], .agg #[.int .i64 x.val.op, .int .i64 x.val.la, .slice q x.val.of.len cq]] y.w fun e w' => e = .returned (.bool true) ∧ ∃ z : Ext W, w' = z.w) :=
                Lib.hid fun y => y.calls (by
                  have := rsame_any x.val.op x.val.la x.val.of x.val.op x.val.la x.val.of _ _ y.w (by omega) (hsx.later y.b) (hq.later y.b)
                  rwa [(sameF_iff _ _ _ _ _ _).2 ⟨rfl, rfl, rfl⟩] at this)
              have z1 := fun y : Ext W => Ext.cell (cell_of (o := 0) (v := .int .i64 (pre.length : Nat)) (show W.heap[nb]? = _ from hbx) rfl) y
              have z2 := fun y : Ext W => Ext.cell (cell_of (o := 0) hwW rfl) y
              have z3 := fun y : Ext W => Ext.cell (cell_of (o := 0) (v := In x.val.op) hx rfl) y
              have z4 := fun y : Ext W => Ext.cell (cell_of (o := 1) (v := In x.val.la) hx rfl) y
              have z5 := fun y : Ext W => Ext.cell (cell_of (o := 2) (v := .slice x.val.p x.val.of.len x.val.cap) hx rfl) y
              have z6 := fun y : Ext W => Ext.cell k0 y
              have z7 := fun y : Ext W => Ext.cell k1 y
              have z8 := fun y : Ext W => Ext.cell k2 y
              have hbtW := (hBU.block bt1 (lt_of_block HT1.out)).trans HT1.out
              have HAW := Lib.hid hAW
              have HBU := Lib.hid hBU
              have HBX := Lib.hid (show W.heap[nb]? = _ from hbx)
              have HBTW := Lib.hid hbtW
              have HPR := Lib.hid hpr
              have hd1 : decide (L.length ≤ pre.length) = false := decide_eq_false (by omega)
              have hprL : pre.length + 1 ≤ 1000000 := by have := HLM.out; omega
              clear hLx hsx hsz1 hq k0 k1 k2 hwW hAW hBU hx hbx hbtW hBw h5W hpr hUn hxl
              rw [HT.out]
              gi_wp2
              simp only [Part.v, List.setIfInBounds_toArray, List.set_cons_succ, List.set_cons_zero]
              refine wpIn_region_quiet_round_lit (fun X => ∃ y : Ext W, X = y.w) (by kernel_rfl) (by kernel_rfl) (by kernel_rfl) ⟨Ext.drew W, rfl⟩ ?_
              repeat (go_big_quiet_step ((go_at_call 13; exact K1.out _)))
              refine wpQuiet_nil ?_
              rintro _ ⟨y, rfl⟩
              obtain ⟨W1, hW1⟩ : ∃ V, V = y.w := ⟨_, rfl⟩
              have hyb : Below W.heap.size W W1 := by rw [hW1]; exact y.b
              rw [← hW1]
              clear hW1 y z1 z2 z3 z4 z5 z6 z7 z8 K1
              have hnb1 := (hyb.block nb hnbW).trans HBX.out
              have hbt1 := (hyb.block bt1 (lt_of_block HBTW.out)).trans HBTW.out
              have hm1 := (hyb.block _ (lt_of_block HAW.out.m)).trans HAW.out.m
              have z1 := cell_of (o := 0) (v := .int .i64 (pre.length : Nat)) hnb1 rfl
              have z2 := free_of (o := 0) hnb1
              have z3 := cell_of (o := 0) (v := .int .i64 1) hbt1 rfl
              have z4 := cell_of (o := 0) (v := .int .i64 many) hm1 rfl
              have hne : bt1 ≠ nb := by have := lt_of_block HT1.out; have := HNB.out; omega
              have hne2 : b0 + 1 + 1 ≠ nb := by have := lt_of_block HA5.out.m; have := HNB.out; omega
              have z3' := (World.cell?_setCell_far W1 ⟨nb, 0, none⟩ ⟨bt1, 0, none⟩ (.int .i64 ((pre.length : Int) + 1)) (Ne.symm hne)).trans z3
              have z4' := (World.cell?_setCell_far W1 ⟨nb, 0, none⟩ ⟨b0 + 1 + 1, 0, none⟩ (.int .i64 ((pre.length : Int) + 1)) (Ne.symm hne2)).trans z4
              have hset : Boxed (W1.setCell ⟨nb, 0, none⟩ (.int .i64 ((pre.length : Int) + 1))) nb 3 (.int .i64 ((pre ++ [x]).length : Nat)) := by
                have := block_setCell (b := nb) (o := 0) (.int .i64 ((pre.length : Int) + 1)) hnb1
                simpa [Boxed] using this
              have hcs : Chg (fun k => k = nb) W (W1.setCell ⟨nb, 0, none⟩ (.int .i64 ((pre.length : Int) + 1))) := (Chg.of_below (S := fun k => k = nb) hyb).setCell (p := ⟨nb, 0, none⟩) (fun _ => rfl) _
              have HSET := Lib.hid hset
              have HKO := Lib.hid (show KeepsOthers W (W1.setCell ⟨nb, 0, none⟩ (.int .i64 ((pre.length : Int) + 1))) from KeepsOthers.trans ⟨hyb.size, fun i o hi _ => (hyb.block i (lt_of_block hi)).trans hi⟩ (KeepsOthers.setCell _ _ _))
              have HKT := Lib.hid (KpT.chg (Z := Z) hcs (fun k hk hz => by have := (HZ.out k hz).2; have := HNB.out; omega) (fun k cs fr hk e => by subst hk; rw [HBX.out] at e; cases e))
              have HBN := Lib.hid (show Below nb U1 (W1.setCell ⟨nb, 0, none⟩ (.int .i64 ((pre.length : Int) + 1))) from ((HNB.out ▸ HBU.out).trans (hyb.mono (by omega))).setCell (p := ⟨nb, 0, none⟩) (Nat.le_refl _) _)
              clear hset hcs hyb hnb1 hbt1 hm1 hne hne2
              gi_wp2
              exact ⟨HKO.out, HKT.out, HSET.out, trivial, HBN.out⟩
            case done1 =>
              rintro D ys W hD rfl ⟨hbx, hpr, hBw⟩ hK
              refine HQ.out D W ⟨hK, hD, _, hbx, ?_, hBw⟩
              exact hxl
            case stop1 =>
              exact fun D c pre W hD hpre h => h.elim
            
            
            
            
            
          case rest1 =>
            intro D1 W1 ⟨hK, hD, nn, hbx, hnn, hBw⟩
            have hUn : nb = U1.heap.size := HNB.out
            have h5U : w5.heap.size ≤ U1.heap.size := HB51.out.size
            have hBU : Below U1.heap.size U1 W1 := by rw [← hUn]; exact hBw
            have h5W : Below w5.heap.size w5 W1 := HB51.out.trans (hBU.mono h5U)
            have hAW := HA5.out.later h5W (by omega)
            have hwW := (h5W.block bw (lt_of_block HW5.out)).trans HW5.out
            have hbtW := (hBU.block bt1 (lt_of_block HT1.out)).trans HT1.out
            have z1 := cell_of (o := 0) (v := .int .i64 (nn : Nat)) hbx rfl
            have z2 := cell_of (o := 0) hwW rfl
            have z3 := cell_of (o := 0) (v := .int .i64 1) hbtW rfl
            have z4 := cell_of (o := 0) (v := .int .i64 many) hAW.m rfl
            have HNN := Lib.hid hnn
            have HK1 := Lib.hid hK
            have HD1 := Lib.hid hD
            have HAW := Lib.hid hAW
            have HBU := Lib.hid hBU
            have HBX := Lib.hid hbx
            have H5W := Lib.hid h5W
            clear hK hD hnn hbx hBw hUn hBU h5W hAW hwW hbtW
            have H1D0 := Lib.hid (show Below U1.heap.size U1 W1 from HBU.out)
            have hnq : ((nn : Int) != (L.length : Int)) = false := by rw [HNN.out]; simp
            go_wp2_with fail
            obtain ⟨bt2, hbt⟩ : ∃ b, b = W1.heap.size := ⟨_, rfl⟩
            obtain ⟨U2, hU⟩ : ∃ U, U = W1.alloc (.cells #[.int .i64 2] 3) := ⟨_, rfl⟩
            have c10 : U2.heap[bt2]? = some (.cells #[.int .i64 2] 3 (0, 0)) := by rw [hU, hbt]; exact block_alloc_new W1 _
            have hb1 : Below W1.heap.size W1 U2 := by rw [hU]; exact (Below.refl _ _).alloc (Nat.le_refl _) _
            rw [← hU, ← hbt]
            have HB52 := Lib.hid (H5W.out.trans (hb1.mono H5W.out.size))
            have HT2 := Lib.hid c10
            have HBU2 := Lib.hid hb1
            have hk1 := (hb1.block D1 (lt_of_block HK1.out)).trans HK1.out
            have HDK1 := Lib.hid hk1
            have HDB1 := Lib.hid (show b0 ≤ D1 by have h1 := HD1.out; have h2 := HUY.out.size; have h3 := HB51.out.size; omega)
            have HDK0' := Lib.hid ((hb1.block D0 (by have := H1D0.out.size; have := lt_of_block HDK0.out; omega)).trans ((H1D0.out.block D0 (lt_of_block HDK0.out)).trans HDK0.out))
            have HD01 := Lib.hid (show D0 ≠ D1 by have h1 := HD1.out; have h2 := HUY.out.size; have := lt_of_block HDK0.out; omega)
            rw [rounds_succ]
            have d10 := cell_of (o := 0) (v := .int .i64 2) c10 rfl
            clear hU hbt c10 hb1 z1 z2 z3 z4 hnq hk1 HAW HBU HBX H5W HNN HNB HY HYN HUY HK1 HD1
            go_upto_region 24 with fail
            have HAU := Lib.hid (HA5.out.later HB52.out (by omega))
            obtain ⟨sm, hsm⟩ : ∃ sm, sm = sameE op la of op' la' of' := ⟨_, rfl⟩
            have hfc : fb = decide (chk op la of = 0) := by rw [HFB.out, HC.out]
            have HSM := Lib.hid hsm
            have HFC := Lib.hid hfc
            clear hsm hfc d10
            have h0u : b0 ≤ U2.heap.size := by have := lt_of_block HAU.out.f.1; omega
            go_cut [8, 13] from 14 to 115 (fun s8 s13 wx => s8 = .bool fb ∧ s13 = .bool sm ∧ Below U2.heap.size U2 wx)
            case first =>
              cases fb with
              | false =>
                obtain rfl : sm = false := by
                  have := HFC.out
                  rw [HSM.out, sameE, ← this]; rfl
                go_wp2
                go_meet
                exact ⟨rfl, rfl, Below.refl _ _⟩
              | true =>
                obtain ⟨a0, a1, a2⟩ := HAU.out.g.c
                have hrc := rcheck_any op' la' of' _ U2 (by omega) HAU.out.g.2
                obtain ⟨c2, hc2⟩ : ∃ c, c = chk op' la' of' := ⟨_, rfl⟩
                rw [← hc2] at hrc
                have HC2 := Lib.hid hc2
                have HRC := Lib.hid hrc
                clear hc2 hrc
                go_wp2_with fail
                refine HRC.out.mono ?_
                rintro e w6 ⟨rfl, hb6⟩
                have HB6 := Lib.hid hb6
                clear hb6 a0 a1 a2 HRC
                by_cases hc2 : c2 = 0
                · have e2 : (c2 == 0) = true := by simp [hc2]
                  have hsm : sm = sameF op la of op' la' of' := by
                    have := HFC.out
                    rw [HSM.out, sameE, ← this, ← HC2.out, hc2]; simp
                  have HA6 := Lib.hid (HAU.out.later HB6.out h0u)
                  have hrs := rsame_any op la of op' la' of' _ _ w6 (by omega) HA6.out.f.2 HA6.out.g.2
                  rw [← hsm] at hrs
                  have HRS := Lib.hid hrs
                  clear hrs hsm hc2
                  obtain ⟨a0, a1, a2⟩ := HA6.out.f.c
                  obtain ⟨g0, g1, g2⟩ := HA6.out.g.c
                  go_wp2_with fail
                  refine HRS.out.mono ?_
                  rintro e w7 ⟨rfl, hb7⟩
                  have HB7 := Lib.hid (HB6.out.trans (hb7.mono HB6.out.size))
                  clear hb7 a0 a1 a2 g0 g1 g2 HRS
                  go_wp2
                  go_meet
                  exact ⟨rfl, rfl, HB7.out⟩
                · have e2 : (c2 == 0) = false := beq_eq_false_iff_ne.2 hc2
                  obtain rfl : sm = false := by
                    rw [HSM.out, sameE, ← HC2.out]; simp [hc2]
                  clear hc2
                  go_wp2
                  go_meet
                  exact ⟨rfl, rfl, HB6.out⟩
            case rest =>
              obtain ⟨rfl, rfl, hb6⟩ := hcut
              have hsy : sameE op' la' of' op la of = sm := by
                rw [HSM.out, Bool.eq_iff_iff]
                simp only [sameE, Bool.and_eq_true, decide_eq_true_eq, sameF_iff]
                constructor
                · rintro ⟨h1, h2, h3, h4, h5⟩; exact ⟨h2, h1, h3.symm, h4.symm, h5.symm⟩
                · rintro ⟨h1, h2, h3, h4, h5⟩; exact ⟨h2, h1, h3.symm, h4.symm, h5.symm⟩
              have hsf : sameE op la of op la of = fb := by
                rw [HFC.out, Bool.eq_iff_iff]
                simp only [sameE, Bool.and_eq_true, decide_eq_true_eq, sameF_iff]
                exact ⟨fun h => h.1, fun h => ⟨h, h, by simp⟩⟩
              have HA6 := Lib.hid (HAU.out.later hb6 h0u)
              have HB6 := Lib.hid hb6
              have h06 : b0 ≤ wc.heap.size := by have := hb6.size; omega
              have hS1 := Same_any op la of op' la' of' _ _ wc (by omega) (by omega) HA6.out.f.2 HA6.out.g.2
              rw [← HSM.out] at hS1
              have HS1 := Lib.hid hS1
              have hS2 := fun X (hX : Below wc.heap.size wc X) => Same_any op' la' of' op la of _ _ X (by omega) (by omega) (HA6.out.g.2.later hX) (HA6.out.f.2.later hX)
              rw [hsy] at hS2
              have HS2 := Lib.hid hS2
              have hS3 := fun X (hX : Below wc.heap.size wc X) => Same_any op la of op la of _ _ X (by omega) (by omega) (HA6.out.f.2.later hX) (HA6.out.f.2.later hX)
              rw [hsf] at hS3
              have HS3 := Lib.hid hS3
              clear hS1 hS2 hS3 hsy hsf hb6
              obtain ⟨a0, a1, a2⟩ := HA6.out.f.c
              obtain ⟨g0, g1, g2⟩ := HA6.out.g.c
              go_wp2_with fail
              refine HS1.out.mono ?_
              rintro e w7 ⟨rfl, hb7⟩
              have HB7 := Lib.hid hb7
              have HA7 := Lib.hid (HA6.out.later hb7 h06)
              have HS27 := Lib.hid (HS2.out w7 hb7)
              clear hb7 a0 a1 a2 g0 g1 g2
              obtain ⟨a0, a1, a2⟩ := HA7.out.f.c
              obtain ⟨g0, g1, g2⟩ := HA7.out.g.c
              go_wp2_with fail
              refine HS27.out.mono ?_
              rintro e w8 ⟨rfl, hb8⟩
              have hb78 := HB7.out.trans (hb8.mono HB7.out.size)
              have HB8 := Lib.hid hb78
              have HA8 := Lib.hid (HA6.out.later hb78 h06)
              have HS38 := Lib.hid (HS3.out w8 hb78)
              clear hb8 hb78 a0 a1 a2 g0 g1 g2 HS27
              obtain ⟨a0, a1, a2⟩ := HA8.out.f.c
              go_wp2_with fail
              refine HS38.out.mono ?_
              rintro e w9 ⟨rfl, hb9⟩
              have HB9 := Lib.hid (HB8.out.trans (hb9.mono HB8.out.size))
              clear hb9 a0 a1 a2 HS38
              go_wp2_with fail
              refine (works_any _).mono ?_
              rintro e wz ⟨rfl, hbz⟩
              have hz := HB9.out.trans (hbz.mono HB9.out.size)
              have HBZ := Lib.hid (HB6.out.trans (hz.mono HB6.out.size))
              have HAZ := Lib.hid (HA6.out.later hz h06)
              clear hz hbz
              have c6 := cell_of (o := 0) (v := .bool false) HAZ.out.r rfl
              have f6 := free_of (o := 0) HAZ.out.r
              go_wp2
              have hU2 := HBZ.out.size
              refine end8 rfl HB0.out [D1, D0] _ ?_ ?_ (block_setCell (.bool true) HAZ.out.r) (HAZ.out.b.setCell (p := ⟨b0 + 1 + 1 + 1, 0, none⟩) (show b0 ≤ b0 + 1 + 1 + 1 by omega) (.bool true)) (by simp; omega)
              · have := HD01.out
                simp [Ne.symm this]
              · have hr := HAZ.out.r
                have hst : ∀ D, b0 ≤ D → U2.heap[D]? = some (.deferred (some [])) → b0 ≤ D ∧ (wz.setCell ⟨b0 + 1 + 1 + 1, 0, none⟩ (.bool true)).heap[D]? = some (.deferred (some [])) := by
                  intro D h1 h2
                  have h3 := (HBZ.out.block D (lt_of_block h2)).trans h2
                  refine ⟨h1, (block_setCell_other _ ?_).trans h3⟩
                  rintro rfl
                  rw [hr] at h3; cases h3
                intro D hD
                simp only [List.mem_cons, List.not_mem_nil, or_false] at hD
                rcases hD with rfl | rfl
                · exact hst _ HDB1.out HDK1.out
                · exact hst _ HDB0.out HDK0'.out

set_option maxRecDepth 100000 in
theorem walks_any (op la op' la' : Int) (of of' : Fms) (s s' : Value) (many : Int) (w : World) (hs : SlIs w s of) (hs' : SlIs w s' of') :
    Calls Tryd.prog 8 #[.agg #[.int .i64 op, .int .i64 la, s], .agg #[.int .i64 op', .int .i64 la', s'], .int .i64 many] w fun e w' => e = .returned (.bool true) ∧ Below w.heap.size w w' :=
  callsIn_wide.1 (walks_in op la op' la' of of' s s' many w hs hs')
#print axioms walks_any
end Go.Proofs.YthbkdbnalkeieaaDoor
