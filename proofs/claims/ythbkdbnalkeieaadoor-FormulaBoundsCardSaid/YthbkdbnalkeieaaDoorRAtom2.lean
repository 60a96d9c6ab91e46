/- The walk of the reference's atom: brackets and !. -/
import Derived.Test.YthbkdbnalkeieaaDoorRAtom
namespace Go.Proofs.YthbkdbnalkeieaaDoor
open Go.RowKit Go.Sort Go.Shelf

def notPR : PR → PR
  | .ok op la of r => .ok 2 0 (.cons op la of .nil) r
  | .bad e => .bad e
def parPR : PR → PR
  | .ok op la of r => if firstB r = 41 then .ok op la of r.tail else .bad 310
  | .bad e => .bad e

theorem oneZ {Z : Nat → Prop} {w : World} {k : Nat} {oa la : Int} {FA : Fms} {sa : Value} (h : w.heap[k]? = some (.cells #[In oa, In la, sa] 26 (0, 0))) (hz : Z k) (ha : SlZ Z w sa FA) (cap : Nat) :
    SlZ Z w (.slice (some ⟨k, 0, none⟩) 1 cap) (.cons oa la FA .nil) :=
  .inr ⟨k, 0, cap, rfl, hz, ⟨sa, cell_of h rfl, cell_of h rfl, cell_of h rfl, ha⟩, trivial⟩

set_option maxHeartbeats 4000000 in
set_option maxRecDepth 100000 in
theorem ratom_not (t : List UInt8) (o : Int) (w : World) (pr R0 : PR) (h0 : 0 ≤ o) (ho : o < 32) (hc : ∀ X, Calls Tryd.prog 50 #[str t, .int .i64 (o + 1)] X fun e w' => REnd X pr e w')
    (hR0 : R0 = notPR pr) :
    Calls Tryd.prog 50 #[str (33 :: t), .int .i64 o] w fun e w' => REnd w R0 e w' := by
  obtain ⟨W, hW, hB, hk1, hk2⟩ := ratom_start w
  obtain ⟨b0, hb0⟩ : ∃ b0, b0 = w.heap.size := ⟨_, rfl⟩
  rw [← hb0] at hk1 hk2
  have HB := Lib.hid hB
  have HK1 := Lib.hid hk1
  have HK2 := Lib.hid hk2
  have HC := Lib.hid hc
  have HR0 := Lib.hid hR0
  have e0 : ∀ h, (⟨(33 :: t).toArray⟩ : ByteArray)[0]'h = 33 := fun _ => rfl
  have eo : decide (32 ≤ o) = false := decide_eq_false (by omega)
  clear hB hk1 hk2 hc hR0
  go_enter Tryd.func50, Tryd.ntmps50
  go_upto_region 2 with fail
  rw [← hW, ← hb0]
  have HB0 := Lib.hid hb0
  clear hW hb0
  go_wp2_with fail
  rw [ext_tail]
  refine (HC.out W).mono ?_
  intro e w2 hE
  have hltK := lt_of_block HK1.out
  have hltK2 := lt_of_block HK2.out
  cases pr with
  | bad x =>
    obtain ⟨⟨rfl, hx⟩, hb2⟩ := hE
    have hk1 := (hb2.block b0 hltK).trans HK1.out
    have hk2 := (hb2.block (b0 + 1) hltK2).trans HK2.out
    have hbA : Below w2.heap.size w2 (w2.alloc (.cells #[.int .i64 0, .int .i64 0, .slice none 0 0] 26)) := (Below.refl _ w2).alloc (Nat.le_refl _) _
    have hbw := HB.out.trans (hb2.mono HB.out.size)
    have hk1A := (hbA.block b0 (lt_of_block hk1)).trans hk1
    have hk2A := (hbA.block (b0 + 1) (lt_of_block hk2)).trans hk2
    obtain ⟨V, hV⟩ : ∃ V, V = w2.alloc (.cells #[.int .i64 0, .int .i64 0, .slice none 0 0] 26) := ⟨_, rfl⟩
    rw [← hV] at hbA hk1A hk2A
    have HBV := Lib.hid (hbw.trans (hbA.mono hbw.size))
    have z0 := cell_of (o := 0) (v := .int .i64 0) hk2A rfl
    have z1 := cell_of (o := 1) (v := .int .i64 0) hk2A rfl
    have z2 := cell_of (o := 2) (v := .slice none 0 0) hk2A rfl
    obtain ⟨⟨t0, t1⟩, ⟨t2, t3⟩, ⟨t4, t5⟩, t6⟩ := store3 hk1A (.int .i64 0) (.int .i64 0) (.slice none 0 0)
    have u0 := cell_of (o := 0) (v := .int .i64 0) t6 rfl
    have u1 := cell_of (o := 1) (v := .int .i64 0) t6 rfl
    have u2 := cell_of (o := 2) (v := .slice none 0 0) t6 rfl
    have ex : (x != 0) = true := by simp [hx]
    have HX := Lib.hid hx
    clear hb2 hk1 hk2 hbA hbw hk1A hk2A t6 hx
    go_upto_region 20 with fail
    rw [← hV]
    clear hV
    go_wp2
    refine ⟨rfl, .tuple #[.agg #[.int .i64 0, .int .i64 0, .slice none 0 0], str [], .int .i64 x], ?_, ?_⟩
    · simp [results, Tryd.f50, go_sem, u0, u1, u2]
    · rw [HR0.out]
      exact ⟨⟨rfl, HX.out⟩, (st3 HB0.out HBV.out _ _ _).1⟩
  | ok op la of r =>
    obtain ⟨⟨s', rfl, hs'⟩, hb2⟩ := hE
    obtain ⟨p', cap', rfl⟩ := hs'.is.slice
    have hk1 := (hb2.block b0 hltK).trans HK1.out
    have hbw := HB.out.trans (hb2.mono HB.out.size)
    obtain ⟨V, hV⟩ : ∃ V, V = w2.alloc (.cells #[.int .i64 op, .int .i64 la, .slice p' of.len cap'] 26) := ⟨_, rfl⟩
    obtain ⟨bx, hbx⟩ : ∃ bx, bx = w2.heap.size := ⟨_, rfl⟩
    have hbA : Below w2.heap.size w2 V := by rw [hV]; exact (Below.refl _ w2).alloc (Nat.le_refl _) _
    have hk1A := (hbA.block b0 (lt_of_block hk1)).trans hk1
    have hkx : V.heap[bx]? = some (.cells #[.int .i64 op, .int .i64 la, .slice p' of.len cap'] 26 (0, 0)) := by rw [hV, hbx]; exact block_alloc_new w2 _
    have hbV := hbw.trans (hbA.mono hbw.size)
    have x0 := cell_of (o := 0) (v := .int .i64 op) hkx rfl
    have x1 := cell_of (o := 1) (v := .int .i64 la) hkx rfl
    have x2 := cell_of (o := 2) (v := .slice p' of.len cap') hkx rfl
    obtain ⟨kk, hkk⟩ : ∃ k, k = V.heap.size := ⟨_, rfl⟩
    obtain ⟨V3, hV3⟩ : ∃ V3, V3 = ((V.setCell ⟨b0, 0, none⟩ (.int .i64 2)).setCell ⟨b0, 1, none⟩ (.int .i64 0)).setCell ⟨b0, 2, none⟩ (.slice (some ⟨kk, 0, none⟩) 1 1) := ⟨_, rfl⟩
    have hs3z : V3.heap.size = kk := by rw [hV3, hkk]; simp [World.setCell]
    obtain ⟨V2, hV2⟩ : ∃ V2, V2 = V3.alloc (.cells #[.int .i64 op, .int .i64 la, .slice p' of.len cap'] 26) := ⟨_, rfl⟩
    have hbV2 : Below V3.heap.size V3 V2 := by rw [hV2]; exact (Below.refl _ V3).alloc (Nat.le_refl _) _
    have hkk2 : V2.heap[kk]? = some (.cells #[In op, In la, .slice p' of.len cap'] 26 (0, 0)) := by rw [hV2, ← hs3z]; exact block_alloc_new V3 _
    obtain ⟨⟨t0, t1⟩, ⟨t2, t3⟩, ⟨t4, t5⟩, t6⟩ := store3 hk1A (.int .i64 2) (.int .i64 0) (.slice (some ⟨kk, 0, none⟩) 1 1)
    have hs13 := st3 HB0.out hbV (.int .i64 2) (.int .i64 0) (.slice (some ⟨kk, 0, none⟩) 1 1)
    rw [← hV3] at t6 hs13
    have t7 := (hbV2.block b0 (lt_of_block t6)).trans t6
    have u0 := cell_of (o := 0) (v := .int .i64 2) t7 rfl
    have u1 := cell_of (o := 1) (v := .int .i64 0) t7 rfl
    have u2 := cell_of (o := 2) (v := .slice (some ⟨kk, 0, none⟩) 1 1) t7 rfl
    have hbV3 := hs13.1.size
    have hb0k : b0 < V.heap.size := lt_of_block hk1A
    have hfin : REnd w R0 (.returned (.tuple #[.agg #[.int .i64 2, .int .i64 0, .slice (some ⟨kk, 0, none⟩) 1 1], str r, .int .i64 0])) V2 := by
      rw [HR0.out]
      have h5 := (hs13.2 _ _ ((hs'.later hbA).mono (Z' := fun k => b0 < k) (fun k hk => by omega))).later hbV2
      exact ⟨⟨_, rfl, oneZ hkk2 (by omega) h5 1⟩, hs13.1.trans (hbV2.mono hbV3)⟩
    have HF := Lib.hid hfin
    clear hb2 hk1 hbw hbA hk1A hkx hbV hbV2 hkk2 hs13 t6 t7 hbV3 hfin hs' hs3z
    go_upto_region 20 with fail
    rw [← hV, ← hbx]
    clear hV hbx
    go_wp2
    rw [← hkk, ← hV3, ← hV2]
    refine ⟨rfl, .tuple #[.agg #[.int .i64 2, .int .i64 0, .slice (some ⟨kk, 0, none⟩) 1 1], str r, .int .i64 0], ?_, HF.out⟩
    simp [results, Tryd.f50, go_sem, u0, u1, u2]

set_option maxHeartbeats 4000000 in
set_option maxRecDepth 100000 in
theorem ratom_par (t : List UInt8) (o : Int) (w : World) (pr R0 : PR) (h0 : 0 ≤ o) (ho : o < 32) (hc : ∀ X, Calls Tryd.prog 33 #[str t, .int .i64 (o + 1), .int .i64 0] X fun e w' => REnd X pr e w')
    (hR0 : R0 = parPR pr) :
    Calls Tryd.prog 50 #[str (40 :: t), .int .i64 o] w fun e w' => REnd w R0 e w' := by
  obtain ⟨W, hW, hB, hk1, hk2⟩ := ratom_start w
  obtain ⟨b0, hb0⟩ : ∃ b0, b0 = w.heap.size := ⟨_, rfl⟩
  rw [← hb0] at hk1 hk2
  have HB := Lib.hid hB
  have HK1 := Lib.hid hk1
  have HK2 := Lib.hid hk2
  have HC := Lib.hid hc
  have HR0 := Lib.hid hR0
  have e0 : ∀ h, (⟨(40 :: t).toArray⟩ : ByteArray)[0]'h = 40 := fun _ => rfl
  have eo : decide (32 ≤ o) = false := decide_eq_false (by omega)
  clear hB hk1 hk2 hc hR0
  go_enter Tryd.func50, Tryd.ntmps50
  go_upto_region 2 with fail
  rw [← hW, ← hb0]
  have HB0 := Lib.hid hb0
  clear hW hb0
  go_wp2_with fail
  rw [ext_tail]
  refine (HC.out W).mono ?_
  intro e w2 hE
  have hltK := lt_of_block HK1.out
  have hltK2 := lt_of_block HK2.out
  clear e0
  obtain ⟨op, la, of, r, p', cap', no, he, hb2, hst⟩ : ∃ (op la : Int) (of : Fms) (r : List UInt8) (p' : Option Addr) (cap' : Nat) (no : Int), e = .returned (.tuple #[.agg #[.int .i64 op, .int .i64 la, .slice p' of.len cap'], str r, .int .i64 no]) ∧ Below W.heap.size W w2 ∧
      ((no = 0 ∧ R0 = (if firstB r = 41 then .ok op la of r.tail else .bad 310) ∧ SlZ (fun k => W.heap.size ≤ k) w2 (.slice p' of.len cap') of) ∨ (no ≠ 0 ∧ R0 = .bad no)) := by
    cases pr with
    | bad x =>
      obtain ⟨⟨rfl, hx⟩, hb2⟩ := hE
      exact ⟨0, 0, .nil, [], none, 0, x, rfl, hb2, .inr ⟨hx, HR0.out⟩⟩
    | ok op la of r =>
      obtain ⟨⟨s', rfl, hs'⟩, hb2⟩ := hE
      obtain ⟨p', cap', rfl⟩ := hs'.is.slice
      exact ⟨op, la, of, r, p', cap', 0, rfl, hb2, .inl ⟨rfl, HR0.out, hs'⟩⟩
  subst he
  have hk1 := (hb2.block b0 hltK).trans HK1.out
  have hk2 := (hb2.block (b0 + 1) hltK2).trans HK2.out
  have hbw := HB.out.trans (hb2.mono HB.out.size)
  obtain ⟨V, hV⟩ : ∃ V, V = w2.alloc (.cells #[.int .i64 op, .int .i64 la, .slice p' of.len cap'] 26) := ⟨_, rfl⟩
  obtain ⟨bx, hbx⟩ : ∃ bx, bx = w2.heap.size := ⟨_, rfl⟩
  have hbA : Below w2.heap.size w2 V := by rw [hV]; exact (Below.refl _ w2).alloc (Nat.le_refl _) _
  have hk1A := (hbA.block b0 (lt_of_block hk1)).trans hk1
  have hk2A := (hbA.block (b0 + 1) (lt_of_block hk2)).trans hk2
  have hkx : V.heap[bx]? = some (.cells #[.int .i64 op, .int .i64 la, .slice p' of.len cap'] 26 (0, 0)) := by rw [hV, hbx]; exact block_alloc_new w2 _
  have HBV := Lib.hid (hbw.trans (hbA.mono hbw.size))
  have hst2 : (no = 0 ∧ R0 = (if firstB r = 41 then .ok op la of r.tail else .bad 310) ∧ SlZ (fun k => b0 < k) V (.slice p' of.len cap') of) ∨ (no ≠ 0 ∧ R0 = .bad no) :=
    hst.imp (fun h => ⟨h.1, h.2.1, (h.2.2.later hbA).mono (fun k hk => by omega)⟩) id
  have HKX := Lib.hid hkx
  have HK1A := Lib.hid hk1A
  have HK2A := Lib.hid hk2A
  have HST := Lib.hid hst2
  clear hk1 hk2 hbw hbA hk1A hk2A hkx hst hst2 hE hb2
  go_upto_region 24 with fail
  rw [← hV, ← hbx]
  clear hV hbx
  have hfail : ∀ x : Int, x ≠ 0 → R0 = .bad x → REnd w R0 (.returned (.tuple #[.agg #[.int .i64 0, .int .i64 0, .slice none 0 0], str [], .int .i64 x])) (((V.setCell ⟨b0, 0, none⟩ (.int .i64 0)).setCell ⟨b0, 1, none⟩ (.int .i64 0)).setCell ⟨b0, 2, none⟩ (.slice none 0 0)) :=
    fun x hx h => by rw [h]; exact ⟨⟨rfl, hx⟩, (st3 HB0.out HBV.out _ _ _).1⟩
  have HFAIL := Lib.hid hfail
  clear hfail
  have z0 := cell_of (o := 0) (v := .int .i64 0) HK2A.out rfl
  have z1 := cell_of (o := 1) (v := .int .i64 0) HK2A.out rfl
  have z2 := cell_of (o := 2) (v := .slice none 0 0) HK2A.out rfl
  have x0 := cell_of (o := 0) (v := .int .i64 op) HKX.out rfl
  have x1 := cell_of (o := 1) (v := .int .i64 la) HKX.out rfl
  have x2 := cell_of (o := 2) (v := .slice p' of.len cap') HKX.out rfl
  rcases HST.out with ⟨rfl, hR, hs⟩ | ⟨hno, hR⟩
  · by_cases hf : firstB r = 41
    · obtain ⟨tl, rfl⟩ : ∃ tl, r = 41 :: tl := by
        cases r with
        | nil => cases hf
        | cons c tl => exact ⟨tl, by rw [show c = 41 from hf]⟩
      rw [if_pos hf] at hR
      have HR := Lib.hid (show R0 = .ok op la of tl from hR)
      have HS := Lib.hid hs
      have e1 : ∀ h, (⟨(41 :: tl).toArray⟩ : ByteArray)[0]'h = 41 := fun _ => rfl
      obtain ⟨⟨t0, t1⟩, ⟨t2, t3⟩, ⟨t4, t5⟩, t6⟩ := store3 HK1A.out (.int .i64 op) (.int .i64 la) (.slice p' of.len cap')
      have u0 := cell_of (o := 0) (v := .int .i64 op) t6 rfl
      have u1 := cell_of (o := 1) (v := .int .i64 la) t6 rfl
      have u2 := cell_of (o := 2) (v := .slice p' of.len cap') t6 rfl
      have HET := Lib.hid (ext_tail 41 tl)
      clear hR hs hf t6
      go_upto_region 28 with fail
      go_region
      rw [HET.out]
      go_wp2
      refine ⟨rfl, .tuple #[.agg #[.int .i64 op, .int .i64 la, .slice p' of.len cap'], str tl, .int .i64 0], ?_, ?_⟩
      · simp [results, Tryd.f50, go_sem, u0, u1, u2]
      · rw [HR.out]
        exact ⟨⟨_, rfl, ((st3 HB0.out HBV.out _ _ _).2 _ _ HS.out).later (Below.refl _ _).drew⟩, (st3 HB0.out HBV.out _ _ _).1.drew⟩
    · rw [if_neg hf] at hR
      have HR := Lib.hid hR
      obtain ⟨⟨t0, t1⟩, ⟨t2, t3⟩, ⟨t4, t5⟩, t6⟩ := store3 HK1A.out (.int .i64 0) (.int .i64 0) (.slice none 0 0)
      have u0 := cell_of (o := 0) (v := .int .i64 0) t6 rfl
      have u1 := cell_of (o := 1) (v := .int .i64 0) t6 rfl
      have u2 := cell_of (o := 2) (v := .slice none 0 0) t6 rfl
      clear hR hs t6
      cases r with
      | nil =>
        clear hf
        go_wp2
        refine ⟨rfl, .tuple #[.agg #[.int .i64 0, .int .i64 0, .slice none 0 0], str [], .int .i64 310], ?_, HFAIL.out 310 (by decide) HR.out⟩
        simp [results, Tryd.f50, go_sem, u0, u1, u2]
      | cons c tl =>
        have e1 : ∀ h, (⟨(c :: tl).toArray⟩ : ByteArray)[0]'h = c := fun _ => rfl
        have ec : ((c.toNat : Int) != 41) = true := by
          have this : ((c.toNat : Int) == 41) = false := u8_ne (k := 41) (by decide) hf
          rw [bne, this]
          rfl
        clear hf
        go_wp2
        refine ⟨rfl, .tuple #[.agg #[.int .i64 0, .int .i64 0, .slice none 0 0], str [], .int .i64 310], ?_, HFAIL.out 310 (by decide) HR.out⟩
        simp [results, Tryd.f50, go_sem, u0, u1, u2]
  · have ex : (no == 0) = false := by simp [hno]
    have ey : (no != 0) = true := by simp [hno]
    have HR := Lib.hid hR
    have HN := Lib.hid hno
    obtain ⟨⟨t0, t1⟩, ⟨t2, t3⟩, ⟨t4, t5⟩, t6⟩ := store3 HK1A.out (.int .i64 0) (.int .i64 0) (.slice none 0 0)
    have u0 := cell_of (o := 0) (v := .int .i64 0) t6 rfl
    have u1 := cell_of (o := 1) (v := .int .i64 0) t6 rfl
    have u2 := cell_of (o := 2) (v := .slice none 0 0) t6 rfl
    clear hR hno t6
    go_wp2
    refine ⟨rfl, .tuple #[.agg #[.int .i64 0, .int .i64 0, .slice none 0 0], str [], .int .i64 no], ?_, HFAIL.out no HN.out HR.out⟩
    simp [results, Tryd.f50, go_sem, u0, u1, u2]

theorem prs_not (n : Nat) (t : List UInt8) (o : Int) : prs (n + 1) .atom o (33 :: t) = if o < 32 then notPR (prs n .atom (o + 1) t) else .bad 311 := by
  have a : ¬ firstB (33 :: t) = 76 := by show ¬ (33 : UInt8) = 76; decide
  have b : firstB (33 :: t) = 33 := rfl
  rw [prs.eq_def]
  dsimp only
  rw [if_neg a, if_pos b]
  split
  · show (match prs n .atom (o + 1) t with | .ok op la of r => PR.ok 2 0 (.cons op la of .nil) r | .bad e => .bad e) = _
    cases prs n .atom (o + 1) t <;> rfl
  · rfl
theorem prs_par (n : Nat) (t : List UInt8) (o : Int) : prs (n + 1) .atom o (40 :: t) = if o < 32 then parPR (prs n (.lev 3) (o + 1) t) else .bad 311 := by
  have a : ¬ firstB (40 :: t) = 76 := by show ¬ (40 : UInt8) = 76; decide
  have b : ¬ firstB (40 :: t) = 33 := by show ¬ (40 : UInt8) = 33; decide
  have c : firstB (40 :: t) = 40 := rfl
  rw [prs.eq_def]
  dsimp only
  rw [if_neg a, if_neg b, if_pos c]
  split
  · show (match prs n (.lev 3) (o + 1) t with | .ok op la of r => if firstB r = 41 then PR.ok op la of r.tail else .bad 310 | .bad e => .bad e) = _
    cases prs n (.lev 3) (o + 1) t <;> rfl
  · rfl
theorem prs_none (n : Nat) (s : List UInt8) (o : Int) (a : firstB s ≠ 76) (b : firstB s ≠ 33) (c : firstB s ≠ 40) : prs (n + 1) .atom o s = .bad 310 := by
  rw [prs.eq_def]
  dsimp only
  rw [if_neg a, if_neg b, if_neg c]

theorem ratom_step (n : Nat) (HA : RAtomOk n) (HL : RLevOk n 3) : RAtomOk (n + 1) := by
  intro s o w h0 h1 hn
  by_cases h76 : firstB s = 76
  · obtain ⟨t, rfl⟩ := first_cons h76 (by decide)
    have e : prs (n + 1) .atom o (76 :: t) = layFrom 16 t := rfl
    rw [e]
    exact ratom_lay t o w
  by_cases h33 : firstB s = 33
  · obtain ⟨t, rfl⟩ := first_cons h33 (by decide)
    simp only [List.length_cons] at hn
    by_cases ho : o < 32
    · refine ratom_not t o w (prs n .atom (o + 1) t) _ h0 ho (fun X => HA t (o + 1) X (by omega) (by omega) (by omega)) ?_
      have e := prs_not n t o
      rw [e, if_pos ho]
    · have e : prs (n + 1) .atom o (33 :: t) = .bad 311 := by rw [prs_not, if_neg ho]
      rw [e]
      exact ratom_bad _ o w 311 (.inr ⟨rfl, .inl h33, by omega⟩)
  by_cases h40 : firstB s = 40
  · obtain ⟨t, rfl⟩ := first_cons h40 (by decide)
    simp only [List.length_cons] at hn
    by_cases ho : o < 32
    · refine ratom_par t o w (prs n (.lev 3) (o + 1) t) _ h0 ho (fun X => HL 0 t (o + 1) X rfl (by omega) (by omega) (by omega)) ?_
      have e := prs_par n t o
      rw [e, if_pos ho]
    · have e : prs (n + 1) .atom o (40 :: t) = .bad 311 := by rw [prs_par, if_neg ho]
      rw [e]
      exact ratom_bad _ o w 311 (.inr ⟨rfl, .inr h40, by omega⟩)
  · have e : prs (n + 1) .atom o s = .bad 310 := prs_none n s o h76 h33 h40
    rw [e]
    exact ratom_bad _ o w 310 (.inl ⟨rfl, h76, h33, h40⟩)

theorem rboth_ok (n : Nat) : ∀ m, m ≤ n → RAtomOk m ∧ ∀ k, k ≤ 3 → RLevOk m k := by
  induction n with
  | zero =>
    intro m hm
    obtain rfl : m = 0 := by omega
    exact ⟨fun s o w _ _ h => by omega, fun k _ a s o w _ _ _ h => by omega⟩
  | succ n ih =>
    intro m hm
    by_cases h : m ≤ n
    · exact ih m h
    · obtain rfl : m = n + 1 := by omega
      refine ⟨ratom_step n (ih n (Nat.le_refl _)).1 ((ih n (Nat.le_refl _)).2 3 (Nat.le_refl _)), fun k hk => ?_⟩
      cases k with
      | zero => exact rlev_zero n (ih n (Nat.le_refl _)).1
      | succ j => exact rlev_step n j (2 - j) (by omega) (fun m hm => (ih m hm).2 j (by omega))
theorem rlev_ok (n k : Nat) (hk : k ≤ 3) : RLevOk n k := (rboth_ok n n (Nat.le_refl _)).2 k hk
#print axioms rlev_ok
end Go.Proofs.YthbkdbnalkeieaaDoor
