/- The walk of level. -/
import Derived.Test.YthbkdbnalkeieaaDoorShort
namespace Go.Proofs.YthbkdbnalkeieaaDoor
open Go.RowKit Go.Sort Go.Shelf

set_option maxHeartbeats 4000000 in
set_option maxRecDepth 100000 in
theorem lev_zero (n : Nat) (HA : AtomOk n) : LevOk (n + 1) 0 := by
  intro rb lb s o w h _ h0 h1 hn v hv0 _
  obtain ⟨p, c, rfl⟩ := hv0 rfl
  obtain ⟨W, hW⟩ : ∃ W, W = w.alloc (.cells #[.int .i64 0, .int .i64 0, .slice none 0 0] 26) := ⟨_, rfl⟩
  have hb : Below w.heap.size w W := by rw [hW]; exact (Below.refl _ w).alloc (Nat.le_refl _) _
  have hR := h.later hb
  have hK : W.heap[w.heap.size]? = some (.cells #[.int .i64 0, .int .i64 0, .slice none 0 0] 26 (0, 0)) := by rw [hW]; exact block_alloc_new w _
  have hlt := h.lt
  have HR := Lib.hid hR
  have HK := Lib.hid hK
  have HB := Lib.hid hb
  have HAt := Lib.hid (HA rb s o W hR h0 h1 (by omega))
  clear hR hK hb HA h
  have hpr : prs (n + 1) (.lev 0) o s = prs n .atom o s := rfl
  have HPR := Lib.hid hpr
  clear hpr
  go_enter Tryd.func31, Tryd.ntmps31
  go_upto_region 1 with fail
  rw [← hW]
  clear hW
  go_wp2_with fail
  refine HAt.out.mono ?_
  intro e w2 hE
  have hltW := lt_of_block HK.out
  cases hL : prs n .atom o s with
  | bad x =>
    rw [hL] at hE
    obtain ⟨rfl, hc2⟩ := hE
    refine ⟨rfl, ?_⟩
    show PEnd rb o w (prs (n + 1) (.lev 0) o s) _ _
    rw [HPR.out, hL]
    exact ⟨rfl, (Chg.of_below HB.out).step hc2 (fun _ _ e => e)⟩
  | ok op la of r =>
    rw [hL] at hE
    obtain ⟨⟨s', rfl, hs'⟩, hR2, hc2⟩ := hE
    obtain ⟨p', cap', rfl⟩ := hs'.is.slice
    have hK2 := hc2.keep HK.out (by show ¬ w.heap.size = rb; omega)
    obtain ⟨⟨t0, t1⟩, ⟨t2, t3⟩, ⟨t4, t5⟩, t6⟩ := store3 hK2 (.int .i64 op) (.int .i64 la) (.slice p' of.len cap')
    have u0 := cell_of (o := 0) (v := .int .i64 op) t6 rfl
    have u1 := cell_of (o := 1) (v := .int .i64 la) t6 rfl
    have u2 := cell_of (o := 2) (v := .slice p' of.len cap') t6 rfl
    have HS2 := Lib.hid hs'
    have HR2 := Lib.hid hR2
    have HC2 := Lib.hid ((Chg.of_below (S := fun k => k = rb) HB.out).step hc2 (fun _ _ e => e))
    have HLL := Lib.hid hL
    clear hs' hR2 hc2 hK2 t6 hL
    go_wp2
    refine ⟨rfl, .agg #[.int .i64 op, .int .i64 la, .slice p' of.len cap'], ?_, ?_⟩
    · simp [results, Tryd.f31, go_sem, u0, u1, u2]
    · show PEnd rb o w (prs (n + 1) (.lev 0) o s) _ _
      rw [HPR.out, HLL.out]
      exact PEnd.stored HR2.out HS2.out HC2.out (Nat.le_refl _) (by omega) (fun k hk => ⟨by omega, by omega⟩)

theorem RowZ.bound {Z : Nat → Prop} {w : World} : ∀ {F : Fms} {b off : Nat}, RowZ Z w F b off → RowZ (fun k => Z k ∧ k < w.heap.size) w F b off
  | .nil, _, _, _ => trivial
  | .cons _ _ _ _, _, _, ⟨hb, ⟨s, h1, h2, h3, h4⟩, h5⟩ => ⟨⟨hb, World.block_lt_of_cell? w _ h1⟩, ⟨s, h1, h2, h3, h4.imp id (fun ⟨b', off', cap, e, h⟩ => ⟨b', off', cap, e, RowZ.bound h⟩)⟩, RowZ.bound h5⟩
theorem SlZ.bound {Z : Nat → Prop} {w : World} {s : Value} {F : Fms} (h : SlZ Z w s F) : SlZ (fun k => Z k ∧ k < w.heap.size) w s F := h.imp id (fun ⟨b', off', cap, e, h⟩ => ⟨b', off', cap, e, h.bound⟩)
theorem IsLv.keepR {w w' : World} {rb lb : Nat} {t : List UInt8} {o : Int} (hR : IsR w rb t o) (hC : Chg (fun k => k = rb) w w') (h : IsLv w lb) : IsLv w' lb := by
  obtain ⟨m, h1, h2⟩ := h
  refine ⟨m, hC.keep h1 ?_, fun k hk => hC.keep (h2 k hk) ?_⟩
  · rintro rfl
    rw [show w.heap[lb]? = _ from hR] at h1
    simp at h1
  · intro e
    have h3 := h2 k hk
    rw [e, show w.heap[rb]? = _ from hR] at h3
    unfold mapOf at h3
    split at h3
    · simp at h3
    · split at h3 <;> simp at h3

/-- Two formulas laid into a new block, a box of three cells written. -/
theorem made2 {Z : Nat → Prop} {w w5 V6 : World} {rb k b0 : Nat} {t : List UInt8} {o op1 la1 op2 la2 : Int} {of1 of2 : Fms} {s1 s2 x y z : Value} {old : Obj}
    (hV : V6 = (((w5.alloc (.cells #[.int .i64 op1, .int .i64 la1, s1, .int .i64 op2, .int .i64 la2, s2] 26)).setCell ⟨k, 0, none⟩ x).setCell ⟨k, 1, none⟩ y).setCell ⟨k, 2, none⟩ z)
    (hk : k < w5.heap.size) (hkr : k ≠ rb) (hkb : b0 ≠ k) (hkw : w.heap.size ≤ k) (hZk : ¬ Z k) (hZn : Z w5.heap.size)
    (hR : IsR w5 rb t o) (hC : Chg (fun k => k = rb) w w5) (hK : w5.heap[b0]? = some old) (h1 : SlZ Z w5 s1 of1) (h2 : SlZ Z w5 s2 of2) :
    IsR V6 rb t o ∧ Chg (fun k => k = rb) w V6 ∧ V6.heap[b0]? = some old ∧ SlZ Z V6 (.slice (some ⟨w5.heap.size, 0, none⟩) 2 2) (.cons op1 la1 of1 (.cons op2 la2 of2 .nil)) := by
  have hc : Chg (fun i => i = k) w5 V6 := by
    rw [hV]
    exact ((((Chg.refl (fun i => i = k) w5).alloc _).setCell (p := ⟨k, 0, none⟩) (fun _ => rfl) _).setCell (p := ⟨k, 1, none⟩) (fun _ => rfl) _).setCell (p := ⟨k, 2, none⟩) (fun _ => rfl) _
  have hn : w5.heap.size ≠ k := by omega
  have hB : V6.heap[w5.heap.size]? = some (.cells #[.int .i64 op1, .int .i64 la1, s1, .int .i64 op2, .int .i64 la2, s2] 26 (0, 0)) := by
    rw [hV]
    exact ((block_setCell_other (p := ⟨k, 2, none⟩) _ hn).trans ((block_setCell_other (p := ⟨k, 1, none⟩) _ hn).trans (block_setCell_other (p := ⟨k, 0, none⟩) _ hn))).trans (block_alloc_new w5 _)
  have g1 := h1.keep hc (fun i hi e => hZk (e ▸ hi))
  have g2 := h2.keep hc (fun i hi e => hZk (e ▸ hi))
  refine ⟨hc.keep hR (fun e => hkr e.symm), hC.step hc (fun b hb e => by omega), hc.keep hK hkb, .inr ⟨w5.heap.size, 0, 2, rfl, ⟨hZn, ⟨s1, cell_of hB rfl, cell_of hB rfl, cell_of hB rfl, g1⟩, ⟨hZn, ⟨s2, cell_of hB rfl, cell_of hB rfl, cell_of hB rfl, g2⟩, trivial⟩⟩⟩⟩

set_option maxHeartbeats 4000000 in
set_option maxRecDepth 100000 in
theorem lev_step (n j off : Nat) (hoff : off + j + 1 = 3) (HL : ∀ m, m ≤ n → LevOk m j) : LevOk (n + 1) (j + 1) := by
  intro rb lb s o w h hLv h0 h1 hn v _ hv1
  have hv := hv1 (by omega)
  have e3 : 3 - (j + 1) = off := by omega
  rw [e3] at hv
  subst hv
  obtain ⟨W, hW⟩ : ∃ W, W = w.alloc (.cells #[.int .i64 0, .int .i64 0, .slice none 0 0] 26) := ⟨_, rfl⟩
  have hb : Below w.heap.size w W := by rw [hW]; exact (Below.refl _ w).alloc (Nat.le_refl _) _
  have hR := h.later hb
  have hK : W.heap[w.heap.size]? = some (.cells #[.int .i64 0, .int .i64 0, .slice none 0 0] 26 (0, 0)) := by rw [hW]; exact block_alloc_new w _
  have hlt := h.lt
  have HR := Lib.hid hR
  have HK := Lib.hid hK
  have HB := Lib.hid hb
  have HLW := Lib.hid (hLv.later hb)
  have HLn := Lib.hid HL
  have hLv0 := hLv
  have h00 := h
  clear hR hK hb HL h hLv hv1
  have HLw := Lib.hid hLv0
  have HRw := Lib.hid h00
  have hj : (j = 0 ∧ off = 2) ∨ (j = 1 ∧ off = 1) ∨ (j = 2 ∧ off = 0) := by omega
  have K0 : Hid (∀ v : Value, (j = 0 → ∃ p c, v = .slice p 0 c) → (j ≠ 0 → v = .slice (some ⟨lb, 3 - j, none⟩) j j) → Calls Tryd.prog 31 #[.pointer (some ⟨rb, 0, none⟩), v] W fun e w' => PEnd rb o W (prs n (.lev j) o s) e w') :=
    Lib.hid fun v hv0 hv1 => HLn.out n (Nat.le_refl _) rb lb s o W HR.out HLW.out h0 h1 (by omega) v hv0 hv1
  have P1 : Hid (∀ x, prs n (.lev j) o s = .bad x → ∀ e w', PEnd rb o w (.bad x) e w' → PEnd rb o w (prs (n + 1) (.lev (j + 1)) o s) e w') :=
    Lib.hid fun x hx e w' h => by rw [show prs (n + 1) (.lev (j + 1)) o s = .bad x by simp [prs, hx]]; exact h
  have P2 : Hid (∀ op la of r, prs n (.lev j) o s = .ok op la of r → prs (n + 1) (.lev (j + 1)) o s = prs n (.loop j op la of) o r) :=
    Lib.hid fun op la of r hx => by simp [prs, hx]
  obtain ⟨sg, hsg⟩ : ∃ sg : UInt8 → Int, sg = signOf off := ⟨_, rfl⟩
  obtain ⟨lp, hlp⟩ : ∃ lp : Nat → Int → Int → Fms → List UInt8 → PR, lp = fun m op la of t => prs m (.loop j op la of) o t := ⟨_, rfl⟩
  have e2 : 2 - j = off := by omega
  have LK : Hid (∀ (X : World) (m : Nat) (c : UInt8), X.heap[m]? = some (mapOf off) → (Instr.lookup 88 (.map (some m)) (.int .u8 c.toNat) true).run Tryd.prog X = .ok (.tuple #[.int .i64 (sg c), .bool (decide (sg c ≠ 0))]) X) :=
    Lib.hid fun X m c h => by rw [hsg]; exact look_any X m c off h
  have LP0 : Hid (∀ m op la of t, sg (firstB t) = 0 → lp (m + 1) op la of t = .ok op la of t) := Lib.hid fun m op la of t h => by
    rw [hsg] at h; rw [hlp]; simp [prs, e2, h]
  have LP1 : Hid (∀ m op la of t x, sg (firstB t) ≠ 0 → prs m (.lev j) o t.tail = .bad x → lp (m + 1) op la of t = .bad x) := Lib.hid fun m op la of t x h h2 => by
    rw [hsg] at h; rw [hlp]; simp [prs, e2, h, h2]
  have LP2 : Hid (∀ m op la of t op' la' of' r', sg (firstB t) ≠ 0 → prs m (.lev j) o t.tail = .ok op' la' of' r' → lp (m + 1) op la of t = lp m (sg (firstB t)) 0 (.cons op la of (.cons op' la' of' .nil)) r') := Lib.hid fun m op la of t op' la' of' r' h h2 => by
    rw [hsg] at h; rw [hlp, hsg]; simp [prs, e2, h, h2]
  have P3 : Hid (∀ op la of r, prs n (.lev j) o s = .ok op la of r → prs (n + 1) (.lev (j + 1)) o s = lp n op la of r) := Lib.hid fun op la of r h => by rw [hlp]; exact P2.out op la of r h
  have KL : Hid (∀ (m : Nat) (X : World) (t : List UInt8), m ≤ n → IsR X rb t o → IsLv X lb → 8 * t.length + 2 * j + 3 ≤ m → ∀ v : Value, (j = 0 → ∃ p c, v = .slice p 0 c) → (j ≠ 0 → v = .slice (some ⟨lb, 3 - j, none⟩) j j) →
      Calls Tryd.prog 31 #[.pointer (some ⟨rb, 0, none⟩), v] X fun e w' => PEnd rb o X (prs m (.lev j) o t) e w') :=
    Lib.hid fun m X t hm hR hl hf v hv0 hv1 => HLn.out m hm rb lb t o X hR hl h0 h1 hf v hv0 hv1
  obtain ⟨R0, hR0⟩ : ∃ R0, R0 = prs (n + 1) (.lev (j + 1)) o s := ⟨_, rfl⟩
  have P4 : Hid (∀ e w', PEnd rb o w R0 e w' → PEnd rb o w (prs (n + 1) (.lev (j + 1)) o s) e w') := Lib.hid fun e w' h => by rw [← hR0]; exact h
  have P5 : Hid (∀ op la of r, prs n (.lev j) o s = .ok op la of r → R0 = lp n op la of r ∧ r.length + 1 ≤ s.length) := Lib.hid fun op la of r h => ⟨by rw [hR0]; exact P3.out op la of r h, (ok_shorter n _ _ _ _ _ _ _ h).1⟩
  obtain ⟨J, hJ⟩ : ∃ J, J = j := ⟨_, rfl⟩
  have hnJ : 8 * s.length + 2 * (J + 1) + 3 ≤ n + 1 := by rw [hJ]; exact hn
  have SG0 : Hid (sg 0 = 0) := Lib.hid (by rw [hsg]; unfold signOf; split <;> first | rfl | (split <;> rfl))
  clear hsg hlp e2 P2 hR0
  rcases hj with ⟨rfl, rfl⟩ | ⟨rfl, rfl⟩ | ⟨rfl, rfl⟩
  all_goals
    go_enter Tryd.func31, Tryd.ntmps31
    go_upto_region 1 with fail
    rw [← hW]
    clear hW
    go_wp2_with fail
    refine (K0.out _ (by intro h; first | exact ⟨_, _, rfl⟩ | omega) (by intro h; first | rfl | omega)).mono ?_
    intro e w2 hE
    have hltW := lt_of_block HK.out
    generalize hL : prs n (Md.lev _) o s = pr at hE
    cases pr with
    | bad x =>
      obtain ⟨rfl, hc2⟩ := hE
      refine ⟨rfl, ?_⟩
      exact P1.out x hL _ _ ⟨rfl, (Chg.of_below HB.out).step hc2 (fun _ _ e => e)⟩
    | ok op la of r =>
      obtain ⟨⟨s', rfl, hs'⟩, hR2, hc2⟩ := hE
      obtain ⟨p', cap', rfl⟩ := hs'.is.slice
      have hP2 := P5.out op la of r hL
      have hK2 := hc2.keep HK.out (by show ¬ w.heap.size = rb; omega)
      have hC2 := (Chg.of_below (S := fun k => k = rb) HB.out).step hc2 (fun _ _ e => e)
      have hbA : Below w2.heap.size w2 (w2.alloc (.cells #[.int .i64 op, .int .i64 la, .slice p' of.len cap'] 26)) := (Below.refl _ w2).alloc (Nat.le_refl _) _
      obtain ⟨W3, hW3⟩ : ∃ W3, W3 = w2.alloc (.cells #[.int .i64 op, .int .i64 la, .slice p' of.len cap'] 26) := ⟨_, rfl⟩
      have hX3 : W3.heap[w2.heap.size]? = some (.cells #[.int .i64 op, .int .i64 la, .slice p' of.len cap'] 26 (0, 0)) := by rw [hW3]; exact block_alloc_new w2 _
      rw [← hW3] at hbA
      have hR3 := hR2.later hbA
      have hLv3 := HLw.out.keepR HRw.out (show Chg (fun k => k = rb) w W3 by rw [hW3]; exact hC2.alloc _)
      go_upto_region 4 with fail
      rw [← hW3]
      obtain ⟨mp, hlb, hmp⟩ := hLv3
      have cl0 : W3.cell? ⟨lb, 0, none⟩ = some (.map (some (mp 0))) := cell_of hlb rfl
      have cl1 : W3.cell? ⟨lb, 1, none⟩ = some (.map (some (mp 1))) := cell_of hlb rfl
      have cl2 : W3.cell? ⟨lb, 2, none⟩ = some (.map (some (mp 2))) := cell_of hlb rfl
      have hm0 := hmp 0 (by decide)
      have hm1 := hmp 1 (by decide)
      have hm2 := hmp 2 (by decide)
      have lk := fun q => LK.out (W3.drewN q) _ (firstB r) (by first | exact hm0 | exact hm1 | exact hm2)
      have HR3 := Lib.hid hR3
      have HX3 := Lib.hid hX3
      have HK3 := Lib.hid ((hbA.block _ (lt_of_block hK2)).trans hK2)
      have HS3 := Lib.hid (hs'.bound.later hbA)
      have HC3 := Lib.hid (show Chg (fun k => k = rb) w W3 by rw [hW3]; exact hC2.alloc _)
      have HP2 := Lib.hid hP2
      have hs2 := hc2.size
      clear hs' hR2 hc2 hK2 hC2 hbA hX3 hR3 hlb hmp hW3 hP2 hL hm0 hm1 hm2
      go_quiet ((go_at_call 48; exact Calls.mono (first_any rb r o _ (by exact HR3.out)) (fun _ _ h => ⟨h.1, _, h.2.symm⟩)))
      go_wp2_with fail
      go_loopg [6, 7] (s.length + 1) (fun gg s6 s7 wr => ∃ (op1 la1 : Int) (of1 : Fms) (r1 : List UInt8) (p1 : Option Addr) (c1 m1 : Nat), s6 = .int .i64 (sg (firstB r1)) ∧ s7 = .bool (!decide (sg (firstB r1) = 0)) ∧ r1.length + 1 ≤ gg ∧ m1 ≤ n ∧ 8 * r1.length + 2 * J + 4 ≤ m1 ∧
        Hid (IsR wr rb r1 o) ∧ Hid (wr.heap[w2.heap.size]? = some (.cells #[.int .i64 op1, .int .i64 la1, .slice p1 of1.len c1] 26 (0, 0))) ∧ Hid (SlZ (fun k => W.heap.size ≤ k ∧ k ≠ w2.heap.size) wr (.slice p1 of1.len c1) of1) ∧
        Hid (wr.heap[w.heap.size]? = some (.cells #[.int .i64 0, .int .i64 0, .slice none 0 0] 26 (0, 0))) ∧ Hid (Chg (fun k => k = rb) w wr) ∧ Hid (R0 = lp m1 op1 la1 of1 r1))
      case atStart =>
        have hq := HP2.out
        have hs9 : SlZ (fun k => W.heap.size ≤ k ∧ k ≠ w2.heap.size) W3 (.slice p' of.len cap') of := HS3.out.mono (fun k hk => ⟨hk.1, by have := hk.2; omega⟩)
        have hs8 := hs9.keep (S := fun _ => False) ((Chg.refl (fun _ => False) W3).drewN nq) (fun _ _ h => h)
        exact ⟨op, la, of, r, p', cap', n, rfl, rfl, by omega, Nat.le_refl _, by omega, Lib.hid HR3.out, Lib.hid HX3.out, Lib.hid hs8, Lib.hid HK3.out, Lib.hid (HC3.out.drewN _), Lib.hid hq.1⟩
      case round =>
        obtain ⟨op1, la1, of1, r1, p1, c1, m1, rfl, rfl, hgk, hmn, hfu, R1, X1, S1, K1, C1, E1⟩ := hrel
        clear HR3 HX3 HS3 HK3 HC3 HP2 lk cl0 cl1 cl2
        by_cases hz : sg (firstB r1) = 0
        · have hz' : (!decide (sg (firstB r1) = 0)) = false := by simp [hz]
          rw [hz']
          have hRR : R0 = .ok op1 la1 of1 r1 := by
            obtain ⟨m2, rfl⟩ : ∃ m2, m1 = m2 + 1 := ⟨m1 - 1, by omega⟩
            rw [E1.out]; exact LP0.out _ _ _ _ _ hz
          obtain ⟨⟨t0, t1⟩, ⟨t2, t3⟩, ⟨t4, t5⟩, t6⟩ := store3 K1.out (.int .i64 op1) (.int .i64 la1) (.slice p1 of1.len c1)
          have u0 := cell_of (o := 0) (v := .int .i64 op1) t6 rfl
          have u1 := cell_of (o := 1) (v := .int .i64 la1) t6 rfl
          have u2 := cell_of (o := 2) (v := .slice p1 of1.len c1) t6 rfl
          have x0 := cell_of (o := 0) (v := .int .i64 op1) X1.out rfl
          have x1 := cell_of (o := 1) (v := .int .i64 la1) X1.out rfl
          have x2 := cell_of (o := 2) (v := .slice p1 of1.len c1) X1.out rfl
          have HRR := Lib.hid hRR
          clear t6 hRR hz
          go_wp2
          refine ⟨rfl, .agg #[.int .i64 op1, .int .i64 la1, .slice p1 of1.len c1], ?_, ?_⟩
          · simp [results, Tryd.f31, go_sem, u0, u1, u2]
          · refine P4.out _ _ ?_
            rw [HRR.out]
            exact PEnd.stored R1.out S1.out C1.out (Nat.le_refl _) (by omega) (fun k hk => ⟨by omega, by omega⟩)
        · have hz' : (!decide (sg (firstB r1) = 0)) = true := by simp [hz]
          rw [hz']
          obtain ⟨c, t, rfl⟩ : ∃ c t, r1 = c :: t := by
            cases r1 with
            | nil => exact absurd SG0.out hz
            | cons c t => exact ⟨c, t, rfl⟩
          have hsk := skip_any rb c t o wr R1.out
          have HSK := Lib.hid hsk
          have HZ := Lib.hid hz
          clear hsk hz
          go_wp2_with fail
          refine HSK.out.mono ?_
          rintro e V ⟨rfl, hV⟩
          have hltr := lt_of_block K1.out
          have VR := Lib.hid (show IsR V rb t o by rw [hV]; exact R1.out.setS _)
          have cV : Chg (fun k => k = rb) wr V := by rw [hV]; exact (Chg.refl (fun k => k = rb) wr).setCell (p := ⟨rb, 0, none⟩) (fun _ => rfl) _
          have VX := Lib.hid (cV.keep X1.out (by show ¬ w2.heap.size = rb; omega))
          have VK := Lib.hid (cV.keep K1.out (by show ¬ w.heap.size = rb; omega))
          have VS := Lib.hid (S1.out.keep cV (fun k hk e => by have := hk.1; omega))
          have VC := Lib.hid (C1.out.step cV (fun _ _ e => e))
          have VL := Lib.hid (HLw.out.keepR HRw.out VC.out)
          clear hV cV R1 X1 K1 S1 C1
          go_upto_region 8 with fail
          refine wp_region_any (by kernel_rfl) ?_
          change wpAny _ _ _ _ _ _ _ V.drew
          refine wpAny_take (i := 0) (v := ?_) rfl (by kernel_rfl) (by kernel_rfl) (by kernel_rfl) (fun _ _ _ h => h) (Or.inl ⟨by rfl, ?_⟩) ?_
          rotate_left
          · intro w
            go_simp
            try with_reducible rfl
          refine wpAny_take (i := 2) (v := ?_) rfl (by kernel_rfl) (by kernel_rfl) (by kernel_rfl) (fun _ _ _ h => h) (Or.inl ⟨by rfl, ?_⟩) ?_
          rotate_left
          · intro w
            go_simp
            try with_reducible rfl
          refine wpAny_take (i := 3) (v := ?_) rfl (by kernel_rfl) (by kernel_rfl) (by kernel_rfl) (fun _ _ _ h => h) (Or.inl ⟨by rfl, ?_⟩) ?_
          rotate_left
          · intro w
            go_simp
            try with_reducible rfl
          refine wpAny_take (i := 4) (v := ?_) rfl (by kernel_rfl) (by kernel_rfl) (by kernel_rfl) (fun _ _ _ h => h) (Or.inl ⟨by rfl, ?_⟩) ?_
          rotate_left
          · intro w
            go_simp
            try with_reducible rfl
          have vb0 := cell_of (o := 0) (v := .int .i64 op1) VX.out rfl
          have vb1 := cell_of (o := 1) (v := .int .i64 la1) VX.out rfl
          have vb2 := cell_of (o := 2) (v := .slice p1 of1.len c1) VX.out rfl
          refine wpAny_ready (rs := [1, 5]) (by kernel_rfl) (by simp) ?_
          refine AllReady.cons rfl (fun K hK => ?_) (AllReady.cons rfl (fun K hK => ?_) AllReady.nil)
          · go_simp
            refine hK _ _ ?_
            clear hK K
            refine wpAny_ready (rs := [5]) (by kernel_rfl) (by simp) ?_
            refine AllReady.cons rfl (fun K hK => ?_) AllReady.nil
            go_simp
            go_wp2_with fail
            obtain ⟨m2, rfl⟩ : ∃ m2, m1 = m2 + 1 := ⟨m1 - 1, by omega⟩
            have hfu2 : 8 * t.length + 2 * J + 3 ≤ m2 := by simp at hfu; omega
            rw [hJ] at hfu2
            refine (KL.out m2 V.drew t (by omega) VR.out VL.out hfu2 _ (by intro h; first | exact ⟨_, _, rfl⟩ | omega) (by intro h; first | rfl | omega)).mono ?_
            intro e w5 hE
            generalize hL2 : prs m2 (Md.lev _) o t = pr2 at hE
            cases pr2 with
            | bad x =>
              obtain ⟨rfl, hc5⟩ := hE
              refine ⟨rfl, ?_⟩
              refine P4.out _ _ ?_
              rw [E1.out, LP1.out m2 op1 la1 of1 (c :: t) x HZ.out hL2]
              exact ⟨rfl, VC.out.step (show Chg (fun k => k = rb) V w5 from ⟨hc5.os, hc5.tape, hc5.output, hc5.size, hc5.block⟩) (fun _ _ e => e)⟩
            | ok op2 la2 of2 r2 =>
              obtain ⟨⟨s5, rfl, hs5⟩, hR5, hc5⟩ := hE
              obtain ⟨p5, cap5, rfl⟩ := hs5.is.slice
              have hcV5 : Chg (fun k => k = rb) V w5 := ⟨hc5.os, hc5.tape, hc5.output, hc5.size, hc5.block⟩
              have hltX := lt_of_block VX.out
              have hX5 := hcV5.keep VX.out (by show ¬ w2.heap.size = rb; omega)
              have hK5 := hcV5.keep VK.out (by show ¬ w.heap.size = rb; omega)
              have hb6 : Below w5.heap.size w5 (w5.alloc (.cells #[.int .i64 op1, .int .i64 la1, .slice p1 of1.len c1, .int .i64 op2, .int .i64 la2, .slice p5 of2.len cap5] 26)) := (Below.refl _ w5).alloc (Nat.le_refl _) _
              have hX6 := (hb6.block _ (lt_of_block hX5)).trans hX5
              obtain ⟨⟨t0, t1⟩, ⟨t2, t3⟩, ⟨t4, t5⟩, t6⟩ := store3 hX6 (.int .i64 (sg (firstB (c :: t)))) (.int .i64 0) (.slice (some ⟨w5.heap.size, 0, none⟩) 2 2)
              have HE5 := Lib.hid (LP2.out m2 op1 la1 of1 (c :: t) op2 la2 of2 r2 HZ.out hL2)
              have HS5 := Lib.hid hs5
              have HR5 := Lib.hid hR5
              have HC5 := Lib.hid hcV5
              have HK5 := Lib.hid hK5
              have HT6 := Lib.hid t6
              have hsh := (ok_shorter m2 _ _ _ _ _ _ _ hL2).1
              clear hs5 hR5 hc5 hcV5 hX5 hK5 hX6 t6 hL2
              go_wp2_with fail
              refine wpAny_ready (rs := [6]) (by kernel_rfl) (by simp) ?_
              refine AllReady.cons rfl (fun K hK => ?_) AllReady.nil
              go_simp
              refine hK _ _ ?_
              clear hK K
              refine wpAny_ready (rs := [7]) (by kernel_rfl) (by simp) ?_
              refine AllReady.cons rfl (fun K hK => ?_) AllReady.nil
              go_simp
              refine hK _ _ ?_
              clear hK K
              refine wpAny_ready (rs := [8]) (by kernel_rfl) (by simp) ?_
              refine AllReady.cons rfl (fun K hK => ?_) AllReady.nil
              go_simp
              refine hK _ _ ?_
              clear hK K
              refine wpAny_done (by kernel_rfl) ?_ _
              go_wp2_with fail
              obtain ⟨V6, hV6⟩ : ∃ V6, V6 = (((w5.alloc (.cells #[.int .i64 op1, .int .i64 la1, .slice p1 of1.len c1, .int .i64 op2, .int .i64 la2, .slice p5 of2.len cap5] 26)).setCell ⟨w2.heap.size, 0, none⟩ (.int .i64 (sg (firstB (c :: t))))).setCell ⟨w2.heap.size, 1, none⟩ (.int .i64 0)).setCell ⟨w2.heap.size, 2, none⟩ (.slice (some ⟨w5.heap.size, 0, none⟩) 2 2) := ⟨_, rfl⟩
              have hT6 := HT6.out
              rw [← hV6] at hT6 ⊢
              have hd : V.drew.heap.size = V.heap.size := rfl
              have hz5 := HC5.out.size
              have hM := made2 (Z := fun i => W.heap.size ≤ i ∧ i ≠ w2.heap.size) (w := w) (rb := rb) (b0 := w.heap.size) hV6 (by omega) (by omega) (by omega) (by omega) (fun h => h.2 rfl) ⟨by omega, by omega⟩ HR5.out (VC.out.step HC5.out (fun _ _ e => e)) HK5.out
                (VS.out.keep HC5.out (fun k hk e => by have := hk.1; omega)) (HS5.out.mono (fun k hk => ⟨by omega, by omega⟩))
              obtain ⟨mR, mC, mK, mS⟩ := hM
              obtain ⟨mp6, hlb6, hmp6⟩ := HLw.out.keepR HRw.out mC
              have ck0 : V6.cell? ⟨lb, 0, none⟩ = some (.map (some (mp6 0))) := cell_of hlb6 rfl
              have ck1 : V6.cell? ⟨lb, 1, none⟩ = some (.map (some (mp6 1))) := cell_of hlb6 rfl
              have ck2 : V6.cell? ⟨lb, 2, none⟩ = some (.map (some (mp6 2))) := cell_of hlb6 rfl
              have hm60 := hmp6 0 (by decide)
              have hm61 := hmp6 1 (by decide)
              have hm62 := hmp6 2 (by decide)
              have lk6 := fun q => LK.out (V6.drewN q) _ (firstB r2) (by first | exact hm60 | exact hm61 | exact hm62)
              have MR := Lib.hid mR
              have MC := Lib.hid mC
              have MK := Lib.hid mK
              have MS := Lib.hid mS
              have MT := Lib.hid hT6
              have ME := Lib.hid (E1.out.trans HE5.out)
              have hlr : (c :: t).length = t.length + 1 := rfl
              rw [← hJ] at hfu2
              clear hT6 mR mC mK mS HE5 HS5 HR5 HC5 HK5 HT6 hV6 hlb6 hmp6 hm60 hm61 hm62 VR VX VK VS VC VL E1
              go_quiet ((go_at_call 48; exact Calls.mono (first_any rb r2 o _ (by exact MR.out)) (fun _ _ h => ⟨h.1, _, h.2.symm⟩)))
              go_wp2_with fail
              go_roundg (r2.length + 1)
              case measure => omega
              case rel =>
                have hs9 := MS.out.keep ((Chg.refl (fun _ => False) V6).drewN nq) (fun _ _ h => h)
                exact ⟨sg (firstB (c :: t)), 0, .cons op1 la1 of1 (.cons op2 la2 of2 .nil), r2, some ⟨w5.heap.size, 0, none⟩, 2, m2, rfl, rfl, Nat.le_refl _, by omega, by omega, Lib.hid MR.out, Lib.hid MT.out, Lib.hid hs9, Lib.hid MK.out, Lib.hid (MC.out.drewN _), ME⟩
          · go_simp
            go_wp2_with fail
            obtain ⟨m2, rfl⟩ : ∃ m2, m1 = m2 + 1 := ⟨m1 - 1, by omega⟩
            have hfu2 : 8 * t.length + 2 * J + 3 ≤ m2 := by simp at hfu; omega
            rw [hJ] at hfu2
            refine (KL.out m2 V.drew t (by omega) VR.out VL.out hfu2 _ (by intro h; first | exact ⟨_, _, rfl⟩ | omega) (by intro h; first | rfl | omega)).mono ?_
            intro e w5 hE
            generalize hL2 : prs m2 (Md.lev _) o t = pr2 at hE
            cases pr2 with
            | bad x =>
              obtain ⟨rfl, hc5⟩ := hE
              refine ⟨rfl, ?_⟩
              refine P4.out _ _ ?_
              rw [E1.out, LP1.out m2 op1 la1 of1 (c :: t) x HZ.out hL2]
              exact ⟨rfl, VC.out.step (show Chg (fun k => k = rb) V w5 from ⟨hc5.os, hc5.tape, hc5.output, hc5.size, hc5.block⟩) (fun _ _ e => e)⟩
            | ok op2 la2 of2 r2 =>
              obtain ⟨⟨s5, rfl, hs5⟩, hR5, hc5⟩ := hE
              obtain ⟨p5, cap5, rfl⟩ := hs5.is.slice
              have hcV5 : Chg (fun k => k = rb) V w5 := ⟨hc5.os, hc5.tape, hc5.output, hc5.size, hc5.block⟩
              have hltX := lt_of_block VX.out
              have hX5 := hcV5.keep VX.out (by show ¬ w2.heap.size = rb; omega)
              have hK5 := hcV5.keep VK.out (by show ¬ w.heap.size = rb; omega)
              have hb6 : Below w5.heap.size w5 (w5.alloc (.cells #[.int .i64 op1, .int .i64 la1, .slice p1 of1.len c1, .int .i64 op2, .int .i64 la2, .slice p5 of2.len cap5] 26)) := (Below.refl _ w5).alloc (Nat.le_refl _) _
              have hX6 := (hb6.block _ (lt_of_block hX5)).trans hX5
              obtain ⟨⟨t0, t1⟩, ⟨t2, t3⟩, ⟨t4, t5⟩, t6⟩ := store3 hX6 (.int .i64 (sg (firstB (c :: t)))) (.int .i64 0) (.slice (some ⟨w5.heap.size, 0, none⟩) 2 2)
              have HE5 := Lib.hid (LP2.out m2 op1 la1 of1 (c :: t) op2 la2 of2 r2 HZ.out hL2)
              have HS5 := Lib.hid hs5
              have HR5 := Lib.hid hR5
              have HC5 := Lib.hid hcV5
              have HK5 := Lib.hid hK5
              have HT6 := Lib.hid t6
              have hsh := (ok_shorter m2 _ _ _ _ _ _ _ hL2).1
              have vc0 := cell_of (o := 0) (v := .int .i64 op1) hX5 rfl
              have vc1 := cell_of (o := 1) (v := .int .i64 la1) hX5 rfl
              have vc2 := cell_of (o := 2) (v := .slice p1 of1.len c1) hX5 rfl
              clear hs5 hR5 hc5 hcV5 hX5 hK5 hX6 t6 hL2 vb0 vb1 vb2
              go_wp2_with fail
              refine wpAny_ready (rs := [1]) (by kernel_rfl) (by simp) ?_
              refine AllReady.cons rfl (fun K hK => ?_) AllReady.nil
              go_simp
              refine hK _ _ ?_
              clear hK K vc0 vc1 vc2
              refine wpAny_ready (rs := [6]) (by kernel_rfl) (by simp) ?_
              refine AllReady.cons rfl (fun K hK => ?_) AllReady.nil
              go_simp
              refine hK _ _ ?_
              clear hK K
              refine wpAny_ready (rs := [7]) (by kernel_rfl) (by simp) ?_
              refine AllReady.cons rfl (fun K hK => ?_) AllReady.nil
              go_simp
              refine hK _ _ ?_
              clear hK K
              refine wpAny_ready (rs := [8]) (by kernel_rfl) (by simp) ?_
              refine AllReady.cons rfl (fun K hK => ?_) AllReady.nil
              go_simp
              refine hK _ _ ?_
              clear hK K
              refine wpAny_done (by kernel_rfl) ?_ _
              go_wp2_with fail
              obtain ⟨V6, hV6⟩ : ∃ V6, V6 = (((w5.alloc (.cells #[.int .i64 op1, .int .i64 la1, .slice p1 of1.len c1, .int .i64 op2, .int .i64 la2, .slice p5 of2.len cap5] 26)).setCell ⟨w2.heap.size, 0, none⟩ (.int .i64 (sg (firstB (c :: t))))).setCell ⟨w2.heap.size, 1, none⟩ (.int .i64 0)).setCell ⟨w2.heap.size, 2, none⟩ (.slice (some ⟨w5.heap.size, 0, none⟩) 2 2) := ⟨_, rfl⟩
              have hT6 := HT6.out
              rw [← hV6] at hT6 ⊢
              have hd : V.drew.heap.size = V.heap.size := rfl
              have hz5 := HC5.out.size
              have hM := made2 (Z := fun i => W.heap.size ≤ i ∧ i ≠ w2.heap.size) (w := w) (rb := rb) (b0 := w.heap.size) hV6 (by omega) (by omega) (by omega) (by omega) (fun h => h.2 rfl) ⟨by omega, by omega⟩ HR5.out (VC.out.step HC5.out (fun _ _ e => e)) HK5.out
                (VS.out.keep HC5.out (fun k hk e => by have := hk.1; omega)) (HS5.out.mono (fun k hk => ⟨by omega, by omega⟩))
              obtain ⟨mR, mC, mK, mS⟩ := hM
              obtain ⟨mp6, hlb6, hmp6⟩ := HLw.out.keepR HRw.out mC
              have ck0 : V6.cell? ⟨lb, 0, none⟩ = some (.map (some (mp6 0))) := cell_of hlb6 rfl
              have ck1 : V6.cell? ⟨lb, 1, none⟩ = some (.map (some (mp6 1))) := cell_of hlb6 rfl
              have ck2 : V6.cell? ⟨lb, 2, none⟩ = some (.map (some (mp6 2))) := cell_of hlb6 rfl
              have hm60 := hmp6 0 (by decide)
              have hm61 := hmp6 1 (by decide)
              have hm62 := hmp6 2 (by decide)
              have lk6 := fun q => LK.out (V6.drewN q) _ (firstB r2) (by first | exact hm60 | exact hm61 | exact hm62)
              have MR := Lib.hid mR
              have MC := Lib.hid mC
              have MK := Lib.hid mK
              have MS := Lib.hid mS
              have MT := Lib.hid hT6
              have ME := Lib.hid (E1.out.trans HE5.out)
              have hlr : (c :: t).length = t.length + 1 := rfl
              rw [← hJ] at hfu2
              clear hT6 mR mC mK mS HE5 HS5 HR5 HC5 HK5 HT6 hV6 hlb6 hmp6 hm60 hm61 hm62 VR VX VK VS VC VL E1
              go_quiet ((go_at_call 48; exact Calls.mono (first_any rb r2 o _ (by exact MR.out)) (fun _ _ h => ⟨h.1, _, h.2.symm⟩)))
              go_wp2_with fail
              go_roundg (r2.length + 1)
              case measure => omega
              case rel =>
                have hs9 := MS.out.keep ((Chg.refl (fun _ => False) V6).drewN nq) (fun _ _ h => h)
                exact ⟨sg (firstB (c :: t)), 0, .cons op1 la1 of1 (.cons op2 la2 of2 .nil), r2, some ⟨w5.heap.size, 0, none⟩, 2, m2, rfl, rfl, Nat.le_refl _, by omega, by omega, Lib.hid MR.out, Lib.hid MT.out, Lib.hid hs9, Lib.hid MK.out, Lib.hid (MC.out.drewN _), ME⟩
end Go.Proofs.YthbkdbnalkeieaaDoor
