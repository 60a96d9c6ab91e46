/- The walk of Parse. -/
import Derived.Test.YthbkdbnalkeieaaDoorLevs
namespace Go.Proofs.YthbkdbnalkeieaaDoor
open Go.RowKit Go.Sort Go.Shelf

/-- What Parse reads: a formula, or why there is none. -/
def rd (s : List UInt8) : PR :=
  if s.length ≤ 4096 then
    match prs (8 * s.length + 9) (.lev 3) 0 s with
    | .bad x => .bad x
    | .ok op la of r => if r = [] then (if chk op la of = 0 then .ok op la of [] else .bad (chk op la of)) else .bad 310
  else .bad 3
def RdEnd (w : World) : PR → Ending → World → Prop
  | .ok op la of _, e, w' => (∃ s, e = .returned (.tuple #[.agg #[.int .i64 op, .int .i64 la, s], .int .i64 0]) ∧ SlZ (fun k => w.heap.size ≤ k) w' s of) ∧ Below w.heap.size w w'
  | .bad x, e, w' => e = .returned (.tuple #[.agg #[.int .i64 0, .int .i64 0, .slice none 0 0], .int .i64 x]) ∧ Below w.heap.size w w'

theorem clear29_any (b : Nat) (x y z : Value) (w : World) (h : w.heap[b]? = some (.cells #[x, y, z] 26 (0, 0))) :
    Calls Tryd.prog 29 #[.pointer (some ⟨b, 0, none⟩)] w fun e w' => e = .returned (.tuple #[]) ∧ w'.heap[b]? = some (.cells #[.int .i64 0, .int .i64 0, .slice none 0 0] 26 (0, 0)) ∧ Chg (fun k => k = b) w w' := by
  obtain ⟨⟨t0, t1⟩, ⟨t2, t3⟩, ⟨t4, t5⟩, t6⟩ := store3 h (.int .i64 0) (.int .i64 0) (.slice none 0 0)
  have T6 := Lib.hid t6
  clear t6 h
  go_enter Tryd.func29, Tryd.ntmps29
  go_wp2
  go_end0
  exact ⟨rfl, T6.out, (((Chg.refl (fun k => k = b) w).setCell (p := ⟨b, 0, none⟩) (fun _ => rfl) _).setCell (p := ⟨b, 1, none⟩) (fun _ => rfl) _).setCell (p := ⟨b, 2, none⟩) (fun _ => rfl) _⟩

/-- The way out: what lies in the two result cells. -/
theorem parse_results (t : Array Value) (b0 : Nat) (V : World) (op la x : Int) (sv : Value) (t2 : t.getD 2 undef = .pointer (some ⟨b0, 0, none⟩)) (t3 : t.getD 3 undef = .pointer (some ⟨b0 + 1, 0, none⟩))
    (hK : V.heap[b0]? = some (.cells #[.int .i64 op, .int .i64 la, sv] 26 (0, 0))) (hK1 : V.heap[b0 + 1]? = some (.cells #[.int .i64 x] 27 (0, 0))) :
    (results Tryd.f10 t).run Tryd.prog V = .ok (.tuple #[.agg #[.int .i64 op, .int .i64 la, sv], .int .i64 x]) V := by
  have u0 := cell_of (o := 0) (v := .int .i64 op) hK rfl
  have u1 := cell_of (o := 1) (v := .int .i64 la) hK rfl
  have u2 := cell_of (o := 2) (v := sv) hK rfl
  have u3 := cell_of (o := 0) (v := .int .i64 x) hK1 rfl
  rw [Array.getD_eq_getD_getElem?] at t2 t3
  simp [results, Tryd.f10, go_sem, t2, t3, u0, u1, u2, u3]

theorem parse_fails (t : Array Value) (b0 : Nat) (w V : World) (a b c : Value) (y x : Int) (t2 : t.getD 2 undef = .pointer (some ⟨b0, 0, none⟩)) (t3 : t.getD 3 undef = .pointer (some ⟨b0 + 1, 0, none⟩))
    (hK : V.heap[b0]? = some (.cells #[a, b, c] 26 (0, 0))) (hK1 : V.heap[b0 + 1]? = some (.cells #[.int .i64 y] 27 (0, 0))) (hb0 : b0 = w.heap.size) (hB : Below b0 w V) {R0 : PR} (hr : R0 = .bad x) :
    Leaves Tryd.prog Tryd.f10 t (fun e w' => RdEnd w R0 e w') [{ target := .fn (.func 28) #[], args := #[.pointer (some ⟨b0 + 1, 0, none⟩), .func (.func 29) #[] #[.pointer (some ⟨b0, 0, none⟩)]] }] (.panicking [{ v := .iface 27 (.int .i64 x), recovered := false }]) V := by
  subst hr
  have hn : b0 ≠ b0 + 1 := by omega
  have hV : (V.setCell ⟨b0 + 1, 0, none⟩ (.int .i64 x)).heap[b0]? = some (.cells #[a, b, c] 26 (0, 0)) := (block_setCell_other (p := ⟨b0 + 1, 0, none⟩) _ hn).trans hK
  refine leaves_cons (f := 28) (args := #[.pointer (some ⟨b0 + 1, 0, none⟩), .func (.func 29) #[] #[.pointer (some ⟨b0, 0, none⟩)]]) (by simp) (by simp [go_sem]) ?_
  refine (caught_panicking ⟨b0 + 1, 0, none⟩ y x 29 #[.pointer (some ⟨b0, 0, none⟩)] [] V _ (cell_of hK1 rfl) (free_of hK1) (clear29_any b0 a b c _ hV) (enters_of Tryd.func29 (by kernel_rfl) rfl)).mono ?_
  rintro e u' w'' ⟨rfl, rfl, hw, hc⟩
  have hk1 := hc.keep (block_setCell (o := 0) (.int .i64 x) hK1) hn.symm
  refine ⟨_, parse_results t b0 w'' 0 0 x (.slice none 0 0) t2 t3 hw hk1, rfl, ?_⟩
  subst hb0
  exact (hB.setCell (p := ⟨w.heap.size + 1, 0, none⟩) (by simp) _).trans (hc.below (fun k _ h => by omega) (by have := lt_of_block hV; omega))

set_option maxHeartbeats 4000000 in
set_option maxRecDepth 100000 in
theorem parse_any (s : List UInt8) (w : World) : Calls Tryd.prog 10 #[str s] w fun e w' => RdEnd w (rd s) e w' := by
  obtain ⟨b0, hb0⟩ : ∃ b0, b0 = w.heap.size := ⟨_, rfl⟩
  obtain ⟨W, hW⟩ : ∃ W, W = (w.alloc (.cells #[.int .i64 0, .int .i64 0, .slice none 0 0] 26)).alloc (.cells #[.int .i64 0] 27) := ⟨_, rfl⟩
  have hB : Below b0 w W := by rw [hW, hb0]; exact ((Below.refl _ w).alloc (Nat.le_refl _) _).alloc (by simp) _
  have hK : W.heap[b0]? = some (.cells #[.int .i64 0, .int .i64 0, .slice none 0 0] 26 (0, 0)) := by rw [hW, hb0]; exact block_alloc_old _ (block_alloc_new w _)
  have hK1 : W.heap[b0 + 1]? = some (.cells #[.int .i64 0] 27 (0, 0)) := by
    have := block_alloc_new (w.alloc (.cells #[.int .i64 0, .int .i64 0, .slice none 0 0] 26)) (.cells #[.int .i64 0] 27)
    rw [World.size_alloc] at this
    rw [hW, hb0]
    exact this
  have HB := Lib.hid hB
  have HK := Lib.hid hK
  have HK1 := Lib.hid hK1
  clear hB hK hK1
  obtain ⟨R0, hR0⟩ : ∃ R0, R0 = rd s := ⟨_, rfl⟩
  rw [← hR0]
  go_enter_defers Tryd.func10, Tryd.ntmps10
  go_upto_region 2 with fail
  rw [← hW, ← hb0]
  have HB0 := Lib.hid hb0
  have HR0 := Lib.hid hR0
  clear hW hb0 hR0
  by_cases hlen : s.length ≤ 4096
  · have hlen' : (s.length : Int) ≤ 4096 := by omega
    go_wp2_with fail
    refine (must_true 3 _).mono ?_
    rintro e w2 ⟨rfl, rfl⟩
    go_upto_region 4 with fail
    obtain ⟨X, hX⟩ : ∃ X, X = W.alloc (.cells #[str s, .int .i64 0] 70) := ⟨_, rfl⟩
    rw [← hX]
    have hbX : Below W.heap.size W X := by rw [hX]; exact (Below.refl _ W).alloc (Nat.le_refl _) _
    have hRX : IsR X W.heap.size s 0 := by rw [hX]; exact block_alloc_new W _
    have HBX := Lib.hid hbX
    have HRX := Lib.hid hRX
    clear hX hbX hRX
    obtain ⟨rb, hrb⟩ : ∃ rb, rb = W.heap.size := ⟨_, rfl⟩
    rw [← hrb] at HRX ⊢
    have HRB := Lib.hid hrb
    clear hrb
    go_wp2_with fail
    refine (levels_any _).mono ?_
    rintro e w1 ⟨lb, rfl, hLv, hb1, hlb⟩
    have hd : X.drew.heap.size = X.heap.size := rfl
    go_wp2_with fail
    have hb1' : Below X.heap.size X w1 := ⟨hb1.os, hb1.tape, hb1.output, hb1.size, hb1.block⟩
    refine (lev_ok (8 * s.length + 9) 3 (Nat.le_refl _) rb lb s 0 w1 (HRX.out.later hb1') hLv (by omega) (by omega) (by omega) _ (fun h => absurd h (by omega)) (fun _ => rfl)).mono ?_
    intro e w2 hE
    have hrbW := HRB.out
    have hC01 : Chg (fun k => k = rb) W w1 := Chg.of_below (HBX.out.trans (hb1'.mono HBX.out.size))
    generalize hL : prs (8 * s.length + 9) (Md.lev 3) 0 s = pr at hE
    have hstay : ∀ {V : World}, Chg (fun k => k = rb) w1 V → Chg (fun _ => False) W V := fun {V} h => (hC01.step h (fun _ _ e => e)).mono (fun k hk e => by omega)
    have hbel : ∀ {V : World}, Chg (fun _ => False) W V → Below b0 w V := fun {V} h => HB.out.trans (h.below (fun _ _ h => h.elim) (Nat.le_of_lt (lt_of_block HK.out)))
    cases pr with
    | bad x =>
      obtain ⟨rfl, hc2⟩ := hE
      have hcW := hstay hc2
      exact parse_fails _ b0 w w2 _ _ _ _ x rfl rfl (hcW.keep HK.out id) (hcW.keep HK1.out id) HB0.out (hbel hcW) (HR0.out.trans (by unfold rd; rw [if_pos hlen, hL]))
    | ok op la of r =>
      obtain ⟨⟨s', rfl, hs'⟩, hR2, hc2⟩ := hE
      obtain ⟨p', cap', rfl⟩ := hs'.is.slice
      have hcW := hstay hc2
      have hK2 := hcW.keep HK.out id
      have hK12 := hcW.keep HK1.out id
      have hlt := lt_of_block HK.out
      have hlt1 := lt_of_block HK1.out
      obtain ⟨⟨t0, t1⟩, ⟨t2, t3⟩, ⟨t4, t5⟩, t6⟩ := store3 hK2 (.int .i64 op) (.int .i64 la) (.slice p' of.len cap')
      obtain ⟨V, hV⟩ : ∃ V, V = ((w2.setCell ⟨b0, 0, none⟩ (.int .i64 op)).setCell ⟨b0, 1, none⟩ (.int .i64 la)).setCell ⟨b0, 2, none⟩ (.slice p' of.len cap') := ⟨_, rfl⟩
      have hcV : Chg (fun k => k = b0) w2 V := by
        rw [hV]
        exact (((Chg.refl (fun k => k = b0) w2).setCell (p := ⟨b0, 0, none⟩) (fun _ => rfl) _).setCell (p := ⟨b0, 1, none⟩) (fun _ => rfl) _).setCell (p := ⟨b0, 2, none⟩) (fun _ => rfl) _
      rw [← hV] at t6
      have hz1 : b0 < w1.heap.size := by have := hC01.size; omega
      have hRV := hcV.keep hR2 (by show ¬ rb = b0; omega)
      have hSV := hs'.keep hcV (fun k hk e => by omega)
      have hV1 := hcV.keep hK12 (by show ¬ b0 + 1 = b0; omega)
      have hBV : Below b0 w V := by
        have h1 := hbel hcW
        have h2 : Below b0 w2 V := hcV.below (fun k _ h => by omega) (by have := lt_of_block hK2; omega)
        exact h1.trans h2
      have HRV := Lib.hid (show IsR V rb r 0 from hRV)
      have hz2 : b0 + 1 < w1.heap.size := by have := hC01.size; have := lt_of_block HK1.out; omega
      have HSV := Lib.hid (hSV.mono (Z' := fun k => b0 + 1 < k) (fun k hk => by omega))
      clear hz2
      have HV1 := Lib.hid hV1
      have HVK := Lib.hid t6
      have HBV := Lib.hid hBV
      have HLL := Lib.hid hL
      clear hRV hSV hV1 t6 hBV hL hcV hK12 hK2 hcW hs' hR2 hc2 hstay hbel hC01 hz1 hrbW
      go_upto_region 5 with fail
      rw [← hV]
      clear hV
      have c0 := HRV.out.c0
      cases r with
      | cons c t =>
        go_wp2_with fail
        refine (must_false 310 _).mono ?_
        rintro e w3 ⟨rfl, rfl⟩
        exact parse_fails _ b0 w V _ _ _ _ 310 rfl rfl HVK.out HV1.out HB0.out HBV.out (HR0.out.trans (by unfold rd; rw [if_pos hlen, HLL.out]; rfl))
      | nil =>
        go_wp2_with fail
        refine (must_true 310 _).mono ?_
        rintro e w3 ⟨rfl, rfl⟩
        have u0 := cell_of (o := 0) (v := .int .i64 op) HVK.out rfl
        have u1 := cell_of (o := 1) (v := .int .i64 la) HVK.out rfl
        have u2 := cell_of (o := 2) (v := .slice p' of.len cap') HVK.out rfl
        have hsz : of.size < 1000000000000 := by
          have h := (ok_shorter _ _ _ _ _ _ _ _ HLL.out).2
          have hp : (Md.lev 3).part ≤ 1 := by decide
          omega
        have HSZ := Lib.hid hsz
        clear hsz
        go_upto_region 6 with fail
        go_wp2_with fail
        refine (check_any op la of (.slice p' of.len cap') V HSZ.out HSV.out.is).mono ?_
        rintro e w4 ⟨rfl, hb4⟩
        clear u0 u1 u2
        have hK4 := (hb4.block b0 (lt_of_block HVK.out)).trans HVK.out
        have hK5 := (hb4.block (b0 + 1) (lt_of_block HV1.out)).trans HV1.out
        obtain ⟨x, hx⟩ : ∃ x, x = chk op la of := ⟨_, rfl⟩
        rw [← hx]
        have HX := Lib.hid hx
        clear hx
        have c1 := cell_of (o := 0) (v := .int .i64 0) hK5 rfl
        have f1 := free_of (o := 0) hK5
        obtain ⟨V2, hV2⟩ : ∃ V2, V2 = w4.setCell ⟨b0 + 1, 0, none⟩ (.int .i64 x) := ⟨_, rfl⟩
        have hA2 : V2.heap[b0]? = some (.cells #[.int .i64 op, .int .i64 la, .slice p' of.len cap'] 26 (0, 0)) := by
          rw [hV2, block_setCell_other _ (by show b0 ≠ b0 + 1; omega)]; exact hK4
        have hA3 : V2.heap[b0 + 1]? = some (.cells #[.int .i64 x] 27 (0, 0)) := by rw [hV2]; exact block_setCell (o := 0) _ hK5
        have hA4 : Below b0 w V2 := by
          rw [hV2]
          exact (HBV.out.trans (hb4.mono (by have := lt_of_block HVK.out; omega))).setCell (p := ⟨b0 + 1, 0, none⟩) (by show b0 ≤ b0 + 1; omega) _
        have hA5 : SlZ (fun k => b0 + 1 < k) V2 (.slice p' of.len cap') of := by
          rw [hV2]
          exact HSV.out.keep ((Chg.of_below (S := fun k => k = b0 + 1) hb4).setCell (p := ⟨b0 + 1, 0, none⟩) (fun _ => rfl) _) (fun k hk e => by omega)
        have HA2 := Lib.hid hA2
        have HA3 := Lib.hid hA3
        have HA4 := Lib.hid hA4
        have HA5 := Lib.hid hA5
        clear hA2 hA3 hA4 hA5 hK4 hK5 hb4
        go_upto_region 7 with fail
        rw [← hV2]
        clear hV2 c1 f1
        have c1 := cell_of (o := 0) (v := .int .i64 x) HA3.out rfl
        by_cases hx : x = 0
        · have e1 : (x == 0) = true := by rw [hx]; rfl
          have HX0 := Lib.hid hx
          clear hx
          go_wp2_with fail
          refine (must_true x _).mono ?_
          rintro e w5 ⟨rfl, rfl⟩
          obtain ⟨⟨t0, t1⟩, ⟨t2, t3⟩, ⟨t4, t5⟩, t6⟩ := store3 HA2.out (.int .i64 op) (.int .i64 la) (.slice p' of.len cap')
          have u1 := cell_of (o := 1) (v := .int .i64 la) HA2.out rfl
          have u2 := cell_of (o := 2) (v := .slice p' of.len cap') HA2.out rfl
          obtain ⟨V3, hV3⟩ : ∃ V3, V3 = ((V2.setCell ⟨b0, 0, none⟩ (.int .i64 op)).setCell ⟨b0, 1, none⟩ (.int .i64 la)).setCell ⟨b0, 2, none⟩ (.slice p' of.len cap') := ⟨_, rfl⟩
          have hc3 : Chg (fun k => k = b0) V2 V3 := by
            rw [hV3]
            exact (((Chg.refl (fun k => k = b0) V2).setCell (p := ⟨b0, 0, none⟩) (fun _ => rfl) _).setCell (p := ⟨b0, 1, none⟩) (fun _ => rfl) _).setCell (p := ⟨b0, 2, none⟩) (fun _ => rfl) _
          have hk1 := hc3.keep HA3.out (by show ¬ b0 + 1 = b0; omega)
          have c2 := cell_of (o := 0) (v := .int .i64 x) hk1 rfl
          have f2 := free_of (o := 0) hk1
          rw [hV3] at c2 f2
          have hk2 := block_setCell (o := 0) (.int .i64 0) hk1
          have hk3 : (V3.setCell ⟨b0 + 1, 0, none⟩ (.int .i64 0)).heap[b0]? = some (.cells #[.int .i64 op, .int .i64 la, .slice p' of.len cap'] 26 (0, 0)) := by
            rw [block_setCell_other _ (by show b0 ≠ b0 + 1; omega), hV3]; exact t6
          have hB3 : Below b0 w (V3.setCell ⟨b0 + 1, 0, none⟩ (.int .i64 0)) :=
            (HA4.out.trans (hc3.below (fun k _ h => by omega) (by have := lt_of_block HA2.out; omega))).setCell (p := ⟨b0 + 1, 0, none⟩) (by show b0 ≤ b0 + 1; omega) _
          have hS3 : SlZ (fun k => b0 + 1 < k) (V3.setCell ⟨b0 + 1, 0, none⟩ (.int .i64 0)) (.slice p' of.len cap') of :=
            HA5.out.keep (S := fun k => k = b0 ∨ k = b0 + 1) ((hc3.mono (fun k _ h => .inl h)).setCell (p := ⟨b0 + 1, 0, none⟩) (fun _ => .inr rfl) _) (fun k hk e => by omega)
          rw [hV3] at hk2 hk3 hB3 hS3
          have HK2 := Lib.hid hk2
          have HK3 := Lib.hid hk3
          have HB3 := Lib.hid hB3
          have HS3 := Lib.hid hS3
          clear hV3 hc3 hk1 hk2 hk3 hB3 hS3 t6
          go_wp2_with fail
          refine leaves_cons (f := 28) (args := #[.pointer (some ⟨b0 + 1, 0, none⟩), .func (.func 29) #[] #[.pointer (some ⟨b0, 0, none⟩)]]) (by simp) (by simp [go_sem]) ?_
          refine (caught_idle _ _ _).mono ?_
          rintro e u' w'' ⟨rfl, rfl, rfl⟩
          refine ⟨_, parse_results _ b0 _ op la 0 (.slice p' of.len cap') rfl rfl HK3.out HK2.out, ?_⟩
          have hR : R0 = .ok op la of [] := HR0.out.trans (by unfold rd; rw [if_pos hlen, HLL.out]; show (if [] = [] then (if chk op la of = 0 then _ else _) else _) = _; rw [if_pos rfl, ← HX.out, if_pos HX0.out])
          have hb0 := HB0.out
          show RdEnd w R0 _ _
          rw [hR]
          exact ⟨⟨_, rfl, HS3.out.mono (fun k hk => by omega)⟩, by rw [← hb0]; exact HB3.out⟩
        · have e1 : (x == 0) = false := beq_eq_false_iff_ne.2 hx
          have HX0 := Lib.hid hx
          clear hx
          go_wp2_with fail
          refine (must_false x _).mono ?_
          rintro e w5 ⟨rfl, rfl⟩
          exact parse_fails _ b0 w V2 _ _ _ _ x rfl rfl HA2.out HA3.out HB0.out HA4.out (HR0.out.trans (by unfold rd; rw [if_pos hlen, HLL.out]; show (if [] = [] then (if chk op la of = 0 then _ else _) else _) = _; rw [if_pos rfl, ← HX.out, if_neg HX0.out]))
  · have hlen' : decide ((s.length : Int) ≤ 4096) = false := decide_eq_false (by omega)
    have hrd : R0 = .bad 3 := HR0.out.trans (if_neg hlen)
    go_wp2_with fail
    refine (must_false 3 _).mono ?_
    rintro e w2 ⟨rfl, rfl⟩
    exact parse_fails _ b0 w W _ _ _ _ 3 rfl rfl HK.out HK1.out HB0.out HB.out hrd
end Go.Proofs.YthbkdbnalkeieaaDoor
