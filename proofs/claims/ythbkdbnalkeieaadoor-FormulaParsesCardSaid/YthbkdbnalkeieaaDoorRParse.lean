/- The walk of the reference's Parse: it answers as the program's does. -/
import Derived.Test.YthbkdbnalkeieaaDoorRAtom2
import Derived.Test.YthbkdbnalkeieaaDoorRCheck
import Derived.Test.YthbkdbnalkeieaaDoorWorks
namespace Go.Proofs.YthbkdbnalkeieaaDoor
open Go.RowKit Go.Sort Go.Shelf

theorem rd_bad {s : List UInt8} {x : Int} (h : rd s = .bad x) : (¬ s.length ≤ 4096 ∧ x = 3) ∨ (s.length ≤ 4096 ∧ prs (8 * s.length + 9) (.lev 3) 0 s = .bad x) ∨
    (s.length ≤ 4096 ∧ ∃ op la of r, prs (8 * s.length + 9) (.lev 3) 0 s = .ok op la of r ∧ ((r ≠ [] ∧ x = 310) ∨ (r = [] ∧ chk op la of ≠ 0 ∧ x = chk op la of))) := by
  unfold rd at h
  split at h
  · rename_i hl
    split at h
    · rename_i y hp
      cases h
      exact .inr (.inl ⟨hl, hp⟩)
    · rename_i op la of r hp
      refine .inr (.inr ⟨hl, op, la, of, r, hp, ?_⟩)
      split at h
      · rename_i hr
        split at h
        · cases h
        · rename_i hc
          cases h
          exact .inr ⟨hr, hc, rfl⟩
      · rename_i hr
        cases h
        exact .inl ⟨hr, rfl⟩
  · rename_i hl
    cases h
    exact .inl ⟨hl, rfl⟩

set_option maxHeartbeats 4000000 in
set_option maxRecDepth 100000 in
theorem rparse_any (s : List UInt8) (w : World) : Calls Tryd.prog 11 #[str s] w fun e w' => RdEnd w (rd s) e w' := by
  obtain ⟨W, hW⟩ : ∃ W, W = w.alloc (.cells #[.int .i64 0, .int .i64 0, .slice none 0 0] 26) := ⟨_, rfl⟩
  obtain ⟨b0, hb0⟩ : ∃ b0, b0 = w.heap.size := ⟨_, rfl⟩
  have hB : Below w.heap.size w W := by rw [hW]; exact (Below.refl _ w).alloc (Nat.le_refl _) _
  have hK : W.heap[b0]? = some (.cells #[.int .i64 0, .int .i64 0, .slice none 0 0] 26 (0, 0)) := by rw [hW, hb0]; exact block_alloc_new w _
  have HB := Lib.hid hB
  have HK := Lib.hid hK
  obtain ⟨R0, hR0⟩ : ∃ R0, R0 = rd s := ⟨_, rfl⟩
  rw [← hR0]
  have HR0 := Lib.hid hR0
  clear hB hK hR0
  go_enter Tryd.func11, Tryd.ntmps11
  go_upto_region 1 with fail
  rw [← hW, ← hb0]
  have HB0 := Lib.hid hb0
  clear hW hb0
  have hbad : ∀ (X : World) (x : Int), Below w.heap.size w X → R0 = .bad x → RdEnd w R0 (.returned (.tuple #[.agg #[.int .i64 0, .int .i64 0, .slice none 0 0], .int .i64 x])) (((X.setCell ⟨b0, 0, none⟩ (.int .i64 0)).setCell ⟨b0, 1, none⟩ (.int .i64 0)).setCell ⟨b0, 2, none⟩ (.slice none 0 0)) :=
    fun X x hX h => by rw [h]; exact ⟨rfl, (st3 HB0.out hX _ _ _).1⟩
  have HBAD := Lib.hid hbad
  clear hbad
  by_cases hlen : s.length ≤ 4096
  rotate_left
  · have hl : (4096 : Int) < s.length := by omega
    have hR : R0 = .bad 3 := HR0.out.trans (if_neg hlen)
    obtain ⟨⟨t0, t1⟩, ⟨t2, t3⟩, ⟨t4, t5⟩, t6⟩ := store3 HK.out (.int .i64 0) (.int .i64 0) (.slice none 0 0)
    have u0 := cell_of (o := 0) (v := .int .i64 0) t6 rfl
    have u1 := cell_of (o := 1) (v := .int .i64 0) t6 rfl
    have u2 := cell_of (o := 2) (v := .slice none 0 0) t6 rfl
    have HR := Lib.hid hR
    clear hR t6 hlen
    go_wp2
    refine ⟨rfl, .tuple #[.agg #[.int .i64 0, .int .i64 0, .slice none 0 0], .int .i64 3], ?_, HBAD.out W 3 HB.out HR.out⟩
    simp [results, Tryd.f11, go_sem, u0, u1, u2]
  have hl : decide ((4096 : Int) < s.length) = false := decide_eq_false (by omega)
  have hLL := rlev_ok (8 * s.length + 9) 3 (Nat.le_refl _) 0 s 0 W rfl (by omega) (by omega) (by omega)
  have HLL := Lib.hid (show Calls Tryd.prog 33 #[str s, .int .i64 0, .int .i64 0] W fun e w' => REnd W (prs (8 * s.length + 9) (.lev 3) 0 s) e w' from hLL)
  clear hLL
  go_wp2_with fail
  refine HLL.out.mono ?_
  intro e w2 hE
  have hltK := lt_of_block HK.out
  generalize hP : prs (8 * s.length + 9) (Md.lev 3) 0 s = pr at hE
  cases pr with
  | bad x =>
    obtain ⟨⟨rfl, hx⟩, hb2⟩ := hE
    have hR : R0 = .bad x := HR0.out.trans (by unfold rd; rw [if_pos hlen, hP])
    have ex : (x == 0) = false := by simp [hx]
    have ey : (x != 0) = true := by simp [hx]
    obtain ⟨V, hV⟩ : ∃ V, V = w2.alloc (.cells #[.int .i64 0, .int .i64 0, .slice none 0 0] 26) := ⟨_, rfl⟩
    have hbA : Below w2.heap.size w2 V := by rw [hV]; exact (Below.refl _ w2).alloc (Nat.le_refl _) _
    have hk2 := (hb2.block b0 hltK).trans HK.out
    have hkA := (hbA.block b0 (lt_of_block hk2)).trans hk2
    have hbw := HB.out.trans (hb2.mono HB.out.size)
    have HBV := Lib.hid (hbw.trans (hbA.mono hbw.size))
    obtain ⟨⟨t0, t1⟩, ⟨t2, t3⟩, ⟨t4, t5⟩, t6⟩ := store3 hkA (.int .i64 0) (.int .i64 0) (.slice none 0 0)
    have u0 := cell_of (o := 0) (v := .int .i64 0) t6 rfl
    have u1 := cell_of (o := 1) (v := .int .i64 0) t6 rfl
    have u2 := cell_of (o := 2) (v := .slice none 0 0) t6 rfl
    have HR := Lib.hid hR
    clear hR t6 hx hb2 hbA hk2 hkA hbw hP
    go_upto_region 4 with fail
    rw [← hV]
    clear hV
    go_wp2
    refine ⟨rfl, .tuple #[.agg #[.int .i64 0, .int .i64 0, .slice none 0 0], .int .i64 x], ?_, HBAD.out V x HBV.out HR.out⟩
    simp [results, Tryd.f11, go_sem, u0, u1, u2]
  | ok op la of r =>
    obtain ⟨⟨s', rfl, hs'⟩, hb2⟩ := hE
    obtain ⟨p', cap', rfl⟩ := hs'.is.slice
    obtain ⟨V, hV⟩ : ∃ V, V = w2.alloc (.cells #[.int .i64 op, .int .i64 la, .slice p' of.len cap'] 26) := ⟨_, rfl⟩
    obtain ⟨bx, hbx⟩ : ∃ bx, bx = w2.heap.size := ⟨_, rfl⟩
    have hbA : Below w2.heap.size w2 V := by rw [hV]; exact (Below.refl _ w2).alloc (Nat.le_refl _) _
    have hk2 := (hb2.block b0 hltK).trans HK.out
    have hkA := (hbA.block b0 (lt_of_block hk2)).trans hk2
    have hkx : V.heap[bx]? = some (.cells #[.int .i64 op, .int .i64 la, .slice p' of.len cap'] 26 (0, 0)) := by rw [hV, hbx]; exact block_alloc_new w2 _
    have hbw := HB.out.trans (hb2.mono HB.out.size)
    have HBV := Lib.hid (hbw.trans (hbA.mono hbw.size))
    have HS := Lib.hid ((hs'.later hbA).mono (Z' := fun k => b0 < k) (fun k hk => by omega))
    have HKA := Lib.hid hkA
    have HKX := Lib.hid hkx
    have HP := Lib.hid hP
    clear hb2 hbA hk2 hkA hkx hbw hs' hP
    go_upto_region 4 with fail
    rw [← hV, ← hbx]
    clear hV hbx
    cases r with
    | cons c tl =>
      have hR : R0 = .bad 310 := HR0.out.trans (by unfold rd; rw [if_pos hlen, HP.out]; rfl)
      obtain ⟨⟨t0, t1⟩, ⟨t2, t3⟩, ⟨t4, t5⟩, t6⟩ := store3 HKA.out (.int .i64 0) (.int .i64 0) (.slice none 0 0)
      have u0 := cell_of (o := 0) (v := .int .i64 0) t6 rfl
      have u1 := cell_of (o := 1) (v := .int .i64 0) t6 rfl
      have u2 := cell_of (o := 2) (v := .slice none 0 0) t6 rfl
      have HR := Lib.hid hR
      clear hR t6
      go_wp2
      refine ⟨rfl, .tuple #[.agg #[.int .i64 0, .int .i64 0, .slice none 0 0], .int .i64 310], ?_, HBAD.out V 310 HBV.out HR.out⟩
      simp [results, Tryd.f11, go_sem, u0, u1, u2]
    | nil =>
      have hsz : of.size < 1000000 := by
        have h := (ok_shorter _ _ _ _ _ _ _ _ HP.out).2
        have hp : (Md.lev 3).part ≤ 1 := by decide
        omega
      have x0 := cell_of (o := 0) (v := .int .i64 op) HKX.out rfl
      have x1 := cell_of (o := 1) (v := .int .i64 la) HKX.out rfl
      have x2 := cell_of (o := 2) (v := .slice p' of.len cap') HKX.out rfl
      have HRC := Lib.hid (rcheck_any op la of (.slice p' of.len cap') V hsz HS.out.is)
      clear hsz
      go_wp2_with fail
      refine HRC.out.mono ?_
      rintro e w3 ⟨rfl, hb3⟩
      have hk3 := (hb3.block b0 (lt_of_block HKA.out)).trans HKA.out
      have hx3 := (hb3.block bx (lt_of_block HKX.out)).trans HKX.out
      have HB3 := Lib.hid (HBV.out.trans (hb3.mono HBV.out.size))
      have HS3 := Lib.hid (HS.out.later hb3)
      obtain ⟨x, hx⟩ : ∃ x, x = chk op la of := ⟨_, rfl⟩
      rw [← hx]
      have hR : R0 = if x = 0 then .ok op la of [] else .bad x := HR0.out.trans (by unfold rd; rw [if_pos hlen, HP.out]; show (if [] = [] then (if chk op la of = 0 then _ else _) else _) = _; rw [if_pos rfl, ← hx])
      clear hx x0 x1 x2 hb3 HRC
      by_cases h : x = 0
      · subst h
        rw [if_pos rfl] at hR
        obtain ⟨⟨t0, t1⟩, ⟨t2, t3⟩, ⟨t4, t5⟩, t6⟩ := store3 hk3 (.int .i64 op) (.int .i64 la) (.slice p' of.len cap')
        have u0 := cell_of (o := 0) (v := .int .i64 op) t6 rfl
        have u1 := cell_of (o := 1) (v := .int .i64 la) t6 rfl
        have u2 := cell_of (o := 2) (v := .slice p' of.len cap') t6 rfl
        have x0 := cell_of (o := 0) (v := .int .i64 op) hx3 rfl
        have x1 := cell_of (o := 1) (v := .int .i64 la) hx3 rfl
        have x2 := cell_of (o := 2) (v := .slice p' of.len cap') hx3 rfl
        have HR := Lib.hid hR
        clear hR t6 hk3 hx3
        go_wp2
        refine ⟨rfl, .tuple #[.agg #[.int .i64 op, .int .i64 la, .slice p' of.len cap'], .int .i64 0], ?_, ?_⟩
        · simp [results, Tryd.f11, go_sem, u0, u1, u2]
        · rw [HR.out]
          exact ⟨⟨_, rfl, (st3 HB0.out HB3.out _ _ _).2 _ _ HS3.out⟩, (st3 HB0.out HB3.out _ _ _).1⟩
      · rw [if_neg h] at hR
        have ey : (x != 0) = true := by simp [h]
        obtain ⟨⟨t0, t1⟩, ⟨t2, t3⟩, ⟨t4, t5⟩, t6⟩ := store3 hk3 (.int .i64 0) (.int .i64 0) (.slice none 0 0)
        have u0 := cell_of (o := 0) (v := .int .i64 0) t6 rfl
        have u1 := cell_of (o := 1) (v := .int .i64 0) t6 rfl
        have u2 := cell_of (o := 2) (v := .slice none 0 0) t6 rfl
        have HR := Lib.hid hR
        clear hR t6 hk3 hx3 h
        go_wp2
        refine ⟨rfl, .tuple #[.agg #[.int .i64 0, .int .i64 0, .slice none 0 0], .int .i64 x], ?_, HBAD.out w3 x HB3.out HR.out⟩
        simp [results, Tryd.f11, go_sem, u0, u1, u2]
#print axioms rparse_any
end Go.Proofs.YthbkdbnalkeieaaDoor
