/- The walks of the reference's Number, sign, level. -/
import Derived.Test.YthbkdbnalkeieaaDoorShort
namespace Go.Proofs.YthbkdbnalkeieaaDoor
open Go.RowKit Go.Sort Go.Shelf

set_option maxHeartbeats 2000000 in
theorem number_any (n : Nat) (hn : n < 16) (w : World) : Calls Tryd.prog 41 #[.int .i64 n] w fun e w' => e = .returned (str (Lib.decDigits n)) ∧ w = w' := by
  rcases (by omega : n = 0 ∨ n = 1 ∨ n = 2 ∨ n = 3 ∨ n = 4 ∨ n = 5 ∨ n = 6 ∨ n = 7 ∨ n = 8 ∨ n = 9 ∨ n = 10 ∨ n = 11 ∨ n = 12 ∨ n = 13 ∨ n = 14 ∨ n = 15) with rfl | rfl | rfl | rfl | rfl | rfl | rfl | rfl | rfl | rfl | rfl | rfl | rfl | rfl | rfl | rfl
  all_goals
    go_enter Tryd.func41, Tryd.ntmps41
    go_wp2
    go_ret
    exact ⟨by kernel_rfl, rfl⟩

theorem u8_ne {c : UInt8} {k : Nat} (hk : k < 256) (h : c ≠ UInt8.ofNat k) : ((c.toNat : Int) == (k : Int)) = false := by
  simp only [beq_eq_false_iff_ne, ne_eq]
  intro e
  apply h
  apply UInt8.toNat_inj.1
  rw [UInt8.toNat_ofNat']
  omega

set_option maxHeartbeats 2000000 in
theorem sign_any (k : Nat) (hk : k ≤ 2) (c : UInt8) (w : World) : Calls Tryd.prog 51 #[.int .u8 c.toNat, .int .i64 k] w fun e w' => e = .returned (.int .i64 (signOf k c)) ∧ w = w' := by
  rcases (by omega : k = 0 ∨ k = 1 ∨ k = 2) with rfl | rfl | rfl
  · by_cases h : c = 124
    · subst h
      go_enter Tryd.func51, Tryd.ntmps51
      go_wp2
      go_ret
      exact ⟨by kernel_rfl, rfl⟩
    · have e1 : ((c.toNat : Int) == 124) = false := u8_ne (k := 124) (by decide) h
      have e2 : signOf 0 c = 0 := by simp [signOf, h]
      rw [e2]
      clear e2 h
      go_enter Tryd.func51, Tryd.ntmps51
      go_wp2
      go_ret
      exact ⟨rfl, rfl⟩
  · by_cases h : c = 94
    · subst h
      go_enter Tryd.func51, Tryd.ntmps51
      go_wp2
      go_ret
      exact ⟨by kernel_rfl, rfl⟩
    · have e1 : ((c.toNat : Int) == 94) = false := u8_ne (k := 94) (by decide) h
      have e2 : signOf 1 c = 0 := by simp [signOf, h]
      rw [e2]
      clear e2 h
      go_enter Tryd.func51, Tryd.ntmps51
      go_wp2
      go_ret
      exact ⟨rfl, rfl⟩
  · by_cases h : c = 38
    · subst h
      go_enter Tryd.func51, Tryd.ntmps51
      go_wp2
      go_ret
      exact ⟨by kernel_rfl, rfl⟩
    · have e1 : ((c.toNat : Int) == 38) = false := u8_ne (k := 38) (by decide) h
      by_cases h' : c = 45
      · subst h'
        go_enter Tryd.func51, Tryd.ntmps51
        go_wp2
        go_ret
        exact ⟨by kernel_rfl, rfl⟩
      · have e3 : ((c.toNat : Int) == 45) = false := u8_ne (k := 45) (by decide) h'
        have e2 : signOf 2 c = 0 := by simp [signOf, h, h']
        rw [e2]
        clear e2 h h'
        go_enter Tryd.func51, Tryd.ntmps51
        go_wp2
        go_ret
        exact ⟨rfl, rfl⟩

def REnd (w : World) : PR → Ending → World → Prop
  | .ok op la of r, e, w' => (∃ s, e = .returned (.tuple #[.agg #[.int .i64 op, .int .i64 la, s], str r, .int .i64 0]) ∧ SlZ (fun k => w.heap.size ≤ k) w' s of) ∧ Below w.heap.size w w'
  | .bad x, e, w' => (e = .returned (.tuple #[.agg #[.int .i64 0, .int .i64 0, .slice none 0 0], str [], .int .i64 x]) ∧ x ≠ 0) ∧ Below w.heap.size w w'
def RLevOk (n k : Nat) : Prop := ∀ (a : Nat) (s : List UInt8) (o : Int) (w : World), a + k = 3 → 0 ≤ o → o ≤ 32 → 8 * s.length + 2 * k + 3 ≤ n →
  Calls Tryd.prog 33 #[str s, .int .i64 o, .int .i64 a] w fun e w' => REnd w (prs n (.lev k) o s) e w'
def RAtomOk (n : Nat) : Prop := ∀ (s : List UInt8) (o : Int) (w : World), 0 ≤ o → o ≤ 32 → 8 * s.length + 2 ≤ n →
  Calls Tryd.prog 50 #[str s, .int .i64 o] w fun e w' => REnd w (prs n .atom o s) e w'

/-- The result's cell is written last. -/
theorem st3 {w w2 : World} {b0 : Nat} (hb0 : b0 = w.heap.size) (h : Below w.heap.size w w2) (x y z : Value) :
    Below w.heap.size w (((w2.setCell ⟨b0, 0, none⟩ x).setCell ⟨b0, 1, none⟩ y).setCell ⟨b0, 2, none⟩ z) ∧
    (∀ s of, SlZ (fun k => b0 < k) w2 s of → SlZ (fun k => w.heap.size ≤ k) (((w2.setCell ⟨b0, 0, none⟩ x).setCell ⟨b0, 1, none⟩ y).setCell ⟨b0, 2, none⟩ z) s of) := by
  have hc : Chg (fun k => k = b0) w2 (((w2.setCell ⟨b0, 0, none⟩ x).setCell ⟨b0, 1, none⟩ y).setCell ⟨b0, 2, none⟩ z) :=
    (((Chg.refl (fun k => k = b0) w2).setCell (p := ⟨b0, 0, none⟩) (fun _ => rfl) _).setCell (p := ⟨b0, 1, none⟩) (fun _ => rfl) _).setCell (p := ⟨b0, 2, none⟩) (fun _ => rfl) _
  refine ⟨h.trans (hc.below (B := w.heap.size) (fun k _ e => by omega) h.size), fun s of hs => (hs.keep hc (fun k hk e => by omega)).mono (fun k hk => by omega)⟩

set_option maxHeartbeats 4000000 in
set_option maxRecDepth 100000 in
theorem rlev_zero (n : Nat) (HA : RAtomOk n) : RLevOk (n + 1) 0 := by
  intro a s o w ha h0 h1 hn
  obtain rfl : a = 3 := by omega
  have hpr : prs (n + 1) (.lev 0) o s = prs n .atom o s := rfl
  rw [hpr]
  obtain ⟨W, hW⟩ : ∃ W, W = w.alloc (.cells #[.int .i64 0, .int .i64 0, .slice none 0 0] 26) := ⟨_, rfl⟩
  obtain ⟨b0, hb0⟩ : ∃ b0, b0 = w.heap.size := ⟨_, rfl⟩
  have hb : Below w.heap.size w W := by rw [hW]; exact (Below.refl _ w).alloc (Nat.le_refl _) _
  have hK : W.heap[b0]? = some (.cells #[.int .i64 0, .int .i64 0, .slice none 0 0] 26 (0, 0)) := by rw [hW, hb0]; exact block_alloc_new w _
  have HK := Lib.hid hK
  have HB := Lib.hid hb
  obtain ⟨R, hR⟩ : ∃ R, R = prs n .atom o s := ⟨_, rfl⟩
  have hat := HA s o W h0 h1 (by omega)
  rw [← hR] at hat ⊢
  have HAt := Lib.hid hat
  clear hK hb HA hpr hat hR
  go_enter Tryd.func33, Tryd.ntmps33
  go_upto_region 1 with fail
  rw [← hW, ← hb0]
  have HB0 := Lib.hid hb0
  clear hW hb0
  go_wp2_with fail
  refine HAt.out.mono ?_
  intro e w2 hE
  cases R with
  | bad x =>
    obtain ⟨⟨rfl, hx⟩, hb2⟩ := hE
    have hk2 := (hb2.block b0 (lt_of_block HK.out)).trans HK.out
    obtain ⟨⟨t0, t1⟩, ⟨t2, t3⟩, ⟨t4, t5⟩, t6⟩ := store3 hk2 (.int .i64 0) (.int .i64 0) (.slice none 0 0)
    have u0 := cell_of (o := 0) (v := .int .i64 0) t6 rfl
    have u1 := cell_of (o := 1) (v := .int .i64 0) t6 rfl
    have u2 := cell_of (o := 2) (v := .slice none 0 0) t6 rfl
    have HX := Lib.hid hx
    have HB2 := Lib.hid (HB.out.trans (hb2.mono HB.out.size))
    clear hk2 t6 hx hb2
    go_wp2
    refine ⟨rfl, .tuple #[.agg #[.int .i64 0, .int .i64 0, .slice none 0 0], str [], .int .i64 x], ?_, ⟨rfl, HX.out⟩, ?_⟩
    · simp [results, Tryd.f33, go_sem, u0, u1, u2]
    · exact (st3 HB0.out HB2.out _ _ _).1
  | ok op la of r =>
    obtain ⟨⟨s', rfl, hs'⟩, hb2⟩ := hE
    obtain ⟨p', cap', rfl⟩ := hs'.is.slice
    have hk2 := (hb2.block b0 (lt_of_block HK.out)).trans HK.out
    obtain ⟨⟨t0, t1⟩, ⟨t2, t3⟩, ⟨t4, t5⟩, t6⟩ := store3 hk2 (.int .i64 op) (.int .i64 la) (.slice p' of.len cap')
    have u0 := cell_of (o := 0) (v := .int .i64 op) t6 rfl
    have u1 := cell_of (o := 1) (v := .int .i64 la) t6 rfl
    have u2 := cell_of (o := 2) (v := .slice p' of.len cap') t6 rfl
    have hlt := lt_of_block HK.out
    have HS := Lib.hid (hs'.mono (Z' := fun k => b0 < k) (fun k hk => by omega))
    have HB2 := Lib.hid (HB.out.trans (hb2.mono HB.out.size))
    clear hk2 t6 hs' hb2 hlt
    go_wp2
    refine ⟨rfl, .tuple #[.agg #[.int .i64 op, .int .i64 la, .slice p' of.len cap'], str r, .int .i64 0], ?_, ⟨_, rfl, ?_⟩, ?_⟩
    · simp [results, Tryd.f33, go_sem, u0, u1, u2]
    · exact (st3 HB0.out HB2.out _ _ _).2 _ _ HS.out
    · exact (st3 HB0.out HB2.out _ _ _).1

theorem RowZ.lt' {Z : Nat → Prop} {w : World} : ∀ {F : Fms} {b off : Nat}, RowZ Z w F b off → RowZ (fun k => Z k ∧ k < w.heap.size) w F b off
  | .nil, _, _, _ => trivial
  | .cons _ _ _ _, _, _, ⟨hb, ⟨s, h1, h2, h3, h4⟩, h5⟩ => ⟨⟨hb, World.block_lt_of_cell? w _ h1⟩, ⟨s, h1, h2, h3, h4.imp id (fun ⟨b', off', cap, e, k⟩ => ⟨b', off', cap, e, RowZ.lt' k⟩)⟩, RowZ.lt' h5⟩
theorem SlZ.lt' {Z : Nat → Prop} {w : World} {s : Value} {F : Fms} (h : SlZ Z w s F) : SlZ (fun k => Z k ∧ k < w.heap.size) w s F := h.imp id (fun ⟨b', off', cap, e, k⟩ => ⟨b', off', cap, e, k.lt'⟩)

theorem twoZ {Z : Nat → Prop} {w : World} {k : Nat} {oa la ob lb : Int} {FA FB : Fms} {sa sb : Value} (h : w.heap[k]? = some (.cells #[In oa, In la, sa, In ob, In lb, sb] 26 (0, 0))) (hz : Z k) (ha : SlZ Z w sa FA) (hb : SlZ Z w sb FB) (cap : Nat) :
    SlZ Z w (.slice (some ⟨k, 0, none⟩) 2 cap) (.cons oa la FA (.cons ob lb FB .nil)) :=
  .inr ⟨k, 0, cap, rfl, hz, ⟨sa, cell_of h rfl, cell_of h rfl, cell_of h rfl, ha⟩, hz, ⟨sb, cell_of h rfl, cell_of h rfl, cell_of h rfl, hb⟩, trivial⟩

/-- Where the loop of level stands. -/
structure LRel (w : World) (b0 bx n j : Nat) (R0 : PR) (lp : Nat → Int → Int → Fms → List UInt8 → PR) (r1 : List UInt8) (no op1 la1 : Int) (of1 : Fms) (p1 : Option Addr) (c1 : Nat) (wr : World) : Prop where
  below : Below w.heap.size w wr
  res : wr.heap[b0]? = some (.cells #[.int .i64 0, .int .i64 0, .slice none 0 0] 26 (0, 0))
  box : wr.heap[bx]? = some (.cells #[.int .i64 op1, .int .i64 la1, .slice p1 of1.len c1] 26 (0, 0))
  state : (no = 0 ∧ (∃ m1, m1 ≤ n ∧ 8 * r1.length + 2 * j + 4 ≤ m1 ∧ R0 = lp m1 op1 la1 of1 r1) ∧ SlZ (fun k => b0 < k ∧ k ≠ bx) wr (.slice p1 of1.len c1) of1) ∨ (no ≠ 0 ∧ R0 = .bad no ∧ r1 = [])

set_option maxHeartbeats 4000000 in
set_option maxRecDepth 100000 in
theorem rlev_step (n j off : Nat) (hjo : j + off = 2) (HL : ∀ m, m ≤ n → RLevOk m j) : RLevOk (n + 1) (j + 1) := by
  intro a s o w ha h0 h1 hn
  obtain rfl : a = off := by omega
  obtain ⟨sg, hsg⟩ : ∃ sg : UInt8 → Int, sg = signOf a := ⟨_, rfl⟩
  obtain ⟨lp, hlp⟩ : ∃ lp : Nat → Int → Int → Fms → List UInt8 → PR, lp = fun m op la of t => prs m (.loop j op la of) o t := ⟨_, rfl⟩
  have e2 : 2 - j = a := by omega
  have SG : Hid (∀ (c : UInt8) (X : World), Calls Tryd.prog 51 #[.int .u8 c.toNat, .int .i64 a] X fun e w' => e = .returned (.int .i64 (sg c)) ∧ X = w') := Lib.hid fun c X => by rw [hsg]; exact sign_any a (by omega) c X
  have SG0 : Hid (sg 0 = 0) := Lib.hid (by rw [hsg]; unfold signOf; split <;> first | rfl | (split <;> rfl))
  have LP0 : Hid (∀ m op la of t, sg (firstB t) = 0 → lp (m + 1) op la of t = .ok op la of t) := Lib.hid fun m op la of t h => by
    rw [hsg] at h; rw [hlp]; simp [prs, e2, h]
  have LP1 : Hid (∀ m op la of t x, sg (firstB t) ≠ 0 → prs m (.lev j) o t.tail = .bad x → lp (m + 1) op la of t = .bad x) := Lib.hid fun m op la of t x h h2 => by
    rw [hsg] at h; rw [hlp]; simp [prs, e2, h, h2]
  have LP2 : Hid (∀ m op la of t op' la' of' r', sg (firstB t) ≠ 0 → prs m (.lev j) o t.tail = .ok op' la' of' r' → lp (m + 1) op la of t = lp m (sg (firstB t)) 0 (.cons op la of (.cons op' la' of' .nil)) r') := Lib.hid fun m op la of t op' la' of' r' h h2 => by
    rw [hsg] at h; rw [hlp, hsg]; simp [prs, e2, h, h2]
  have P1 : Hid (∀ x, prs n (.lev j) o s = .bad x → prs (n + 1) (.lev (j + 1)) o s = .bad x) := Lib.hid fun x hx => by simp [prs, hx]
  have P3 : Hid (∀ op la of r, prs n (.lev j) o s = .ok op la of r → prs (n + 1) (.lev (j + 1)) o s = lp n op la of r ∧ r.length + 1 ≤ s.length) := Lib.hid fun op la of r h => ⟨by rw [hlp]; simp [prs, h], (ok_shorter n _ _ _ _ _ _ _ h).1⟩
  have SH : Hid (∀ m t op la of r, prs m (.lev j) o t = .ok op la of r → r.length + 1 ≤ t.length) := Lib.hid fun m t op la of r h => (ok_shorter m _ _ _ _ _ _ _ h).1
  have KL : Hid (∀ (m : Nat) (X : World) (t : List UInt8), m ≤ n → 8 * t.length + 2 * j + 3 ≤ m → Calls Tryd.prog 33 #[str t, .int .i64 o, .int .i64 (a + 1)] X fun e w' => REnd X (prs m (.lev j) o t) e w') :=
    Lib.hid fun m X t hm hf => by
      have := HL m hm (a + 1) t o X (by omega) h0 h1 hf
      simpa using this
  obtain ⟨R0, hR0⟩ : ∃ R0, R0 = prs (n + 1) (.lev (j + 1)) o s := ⟨_, rfl⟩
  rw [← hR0] at P1 P3 ⊢
  obtain ⟨W, hW⟩ : ∃ W, W = w.alloc (.cells #[.int .i64 0, .int .i64 0, .slice none 0 0] 26) := ⟨_, rfl⟩
  obtain ⟨b0, hb0⟩ : ∃ b0, b0 = w.heap.size := ⟨_, rfl⟩
  have hb : Below w.heap.size w W := by rw [hW]; exact (Below.refl _ w).alloc (Nat.le_refl _) _
  have hK : W.heap[b0]? = some (.cells #[.int .i64 0, .int .i64 0, .slice none 0 0] 26 (0, 0)) := by rw [hW, hb0]; exact block_alloc_new w _
  have HK := Lib.hid hK
  have HB := Lib.hid hb
  have ea : ((a : Int) == 3) = false := by simp; omega
  have eb : (a : Int) ≤ 2 := by omega
  clear hK hb HL hR0 hsg hlp e2
  go_enter Tryd.func33, Tryd.ntmps33
  go_upto_region 1 with fail
  rw [← hW, ← hb0]
  have HB0 := Lib.hid hb0
  clear hW hb0
  go_wp2_with fail
  refine (KL.out n W s (Nat.le_refl _) (by omega)).mono ?_
  intro e w2 hE
  have hstart : ∀ op1 la1 of1 p1 c1, Below W.heap.size W w2 → Below w.heap.size w (w2.alloc (.cells #[.int .i64 op1, .int .i64 la1, .slice p1 of1 c1] 26)) ∧ (w2.alloc (.cells #[.int .i64 op1, .int .i64 la1, .slice p1 of1 c1] 26)).heap[b0]? = some (.cells #[.int .i64 0, .int .i64 0, .slice none 0 0] 26 (0, 0)) ∧
      (w2.alloc (.cells #[.int .i64 op1, .int .i64 la1, .slice p1 of1 c1] 26)).heap[w2.heap.size]? = some (.cells #[.int .i64 op1, .int .i64 la1, .slice p1 of1 c1] 26 (0, 0)) := fun op1 la1 of1 p1 c1 hb2 =>
    ⟨(HB.out.trans (hb2.mono HB.out.size)).alloc (HB.out.trans (hb2.mono HB.out.size)).size _, block_alloc_old _ ((hb2.block b0 (lt_of_block HK.out)).trans HK.out), block_alloc_new w2 _⟩
  have hltK := lt_of_block HK.out
  obtain ⟨op1, la1, of1, r1, p1, c1, no, he, hrel0⟩ : ∃ (op1 la1 : Int) (of1 : Fms) (r1 : List UInt8) (p1 : Option Addr) (c1 : Nat) (no : Int), e = .returned (.tuple #[.agg #[.int .i64 op1, .int .i64 la1, .slice p1 of1.len c1], str r1, .int .i64 no]) ∧
      (r1.length ≤ s.length ∧ b0 < w2.heap.size ∧ LRel w b0 w2.heap.size n j R0 lp r1 no op1 la1 of1 p1 c1 (w2.alloc (.cells #[.int .i64 op1, .int .i64 la1, .slice p1 of1.len c1] 26))) := by
    generalize hL : prs n (Md.lev j) o s = pr at hE
    cases pr with
    | bad x =>
      obtain ⟨⟨rfl, hx⟩, hb2⟩ := hE
      obtain ⟨g1, g2, g3⟩ := hstart 0 0 0 none 0 hb2
      exact ⟨0, 0, .nil, [], none, 0, x, rfl, Nat.zero_le _, by have := hb2.size; omega, g1, g2, g3, .inr ⟨hx, P1.out x hL, rfl⟩⟩
    | ok op la of r =>
      obtain ⟨⟨s', rfl, hs'⟩, hb2⟩ := hE
      obtain ⟨p', cap', rfl⟩ := hs'.is.slice
      obtain ⟨g1, g2, g3⟩ := hstart op la of.len p' cap' hb2
      obtain ⟨hR0, hlen⟩ := P3.out op la of r hL
      refine ⟨op, la, of, r, p', cap', 0, rfl, by omega, by have := hb2.size; omega, g1, g2, g3, .inl ⟨rfl, ⟨n, Nat.le_refl _, by omega, hR0⟩, ?_⟩⟩
      have hs2 := hs'.lt'
      exact (hs2.mono (Z' := fun k => b0 < k ∧ k ≠ w2.heap.size) (fun k hk => ⟨by omega, by omega⟩)).keep (Chg.of_below (S := fun _ => False) ((Below.refl _ w2).alloc (Nat.le_refl _) _)) (fun _ _ h => h)
  subst he
  obtain ⟨hr1, hbx0, hrel0⟩ := hrel0
  obtain ⟨bx, hbx⟩ : ∃ bx, bx = w2.heap.size := ⟨_, rfl⟩
  obtain ⟨W3, hW3⟩ : ∃ X, X = w2.alloc (.cells #[.int .i64 op1, .int .i64 la1, .slice p1 of1.len c1] 26) := ⟨_, rfl⟩
  rw [← hbx] at hbx0 hrel0
  rw [← hW3] at hrel0
  have HREL := Lib.hid hrel0
  clear hrel0 hstart hE
  go_upto_region 4 with fail
  rw [← hbx, ← hW3]
  clear hbx hW3
  go_loopg [10, 11] (s.length + 2) (fun gg s10 s11 wr => ∃ (op1 la1 : Int) (of1 : Fms) (r1 : List UInt8) (p1 : Option Addr) (c1 : Nat) (no : Int), s10 = str r1 ∧ s11 = .int .i64 no ∧ r1.length + 1 ≤ gg ∧ Hid (LRel w b0 bx n j R0 lp r1 no op1 la1 of1 p1 c1 wr))
  case atStart => exact ⟨op1, la1, of1, r1, p1, c1, no, rfl, rfl, by omega, HREL⟩
  case round =>
    clear HREL
    obtain ⟨op1, la1, of1, r1, p1, c1, no, rfl, rfl, hgk, HR⟩ := hrel
    have hbk := HR.out.box
    have x0 := cell_of (o := 0) (v := .int .i64 op1) hbk rfl
    have x1 := cell_of (o := 1) (v := .int .i64 la1) hbk rfl
    have x2 := cell_of (o := 2) (v := .slice p1 of1.len c1) hbk rfl
    rcases HR.out.state with ⟨rfl, hm, hs1⟩ | ⟨hno, hR0, rfl⟩
    · have hfin : ∀ (X : World) (rr : List UInt8), R0 = .ok op1 la1 of1 rr → REnd w R0 (.returned (.tuple #[.agg #[.int .i64 op1, .int .i64 la1, .slice p1 of1.len c1], str rr, .int .i64 0])) (((wr.setCell ⟨b0, 0, none⟩ (.int .i64 op1)).setCell ⟨b0, 1, none⟩ (.int .i64 la1)).setCell ⟨b0, 2, none⟩ (.slice p1 of1.len c1)) := fun X rr h => by
        rw [h]
        exact ⟨⟨_, rfl, (st3 HB0.out HR.out.below _ _ _).2 _ _ (hs1.mono (fun k hk => hk.1))⟩, (st3 HB0.out HR.out.below _ _ _).1⟩
      obtain ⟨⟨t0, t1⟩, ⟨t2, t3⟩, ⟨t4, t5⟩, t6⟩ := store3 HR.out.res (.int .i64 op1) (.int .i64 la1) (.slice p1 of1.len c1)
      have u0 := cell_of (o := 0) (v := .int .i64 op1) t6 rfl
      have u1 := cell_of (o := 1) (v := .int .i64 la1) t6 rfl
      have u2 := cell_of (o := 2) (v := .slice p1 of1.len c1) t6 rfl
      have HF := Lib.hid hfin
      have HM := Lib.hid hm
      have HS1 := Lib.hid hs1
      clear hbk hfin hm hs1 t6
      cases r1 with
      | nil =>
        have hR : R0 = .ok op1 la1 of1 [] := by
          obtain ⟨m1, hm1, hm2, hm3⟩ := HM.out
          obtain ⟨m2, rfl⟩ : ∃ m2, m1 = m2 + 1 := ⟨m1 - 1, by omega⟩
          rw [hm3]; exact LP0.out _ _ _ _ _ SG0.out
        have HRR := Lib.hid hR
        clear hR
        go_wp2
        refine ⟨rfl, .tuple #[.agg #[.int .i64 op1, .int .i64 la1, .slice p1 of1.len c1], str [], .int .i64 0], ?_, HF.out wr [] HRR.out⟩
        simp [results, Tryd.f33, go_sem, u0, u1, u2]
      | cons c t =>
        go_wp2_with fail
        refine (SG.out c _).mono ?_
        rintro e v3 ⟨rfl, rfl⟩
        by_cases hz : sg c = 0
        · have hR : R0 = .ok op1 la1 of1 (c :: t) := by
            obtain ⟨m1, hm1, hm2, hm3⟩ := HM.out
            obtain ⟨m2, rfl⟩ : ∃ m2, m1 = m2 + 1 := ⟨m1 - 1, by omega⟩
            rw [hm3]; exact LP0.out _ _ _ _ _ hz
          have HRR := Lib.hid hR
          have ez : (sg c != 0) = false := by simp [hz]
          clear hR hz
          go_wp2
          refine ⟨rfl, .tuple #[.agg #[.int .i64 op1, .int .i64 la1, .slice p1 of1.len c1], str (c :: t), .int .i64 0], ?_, HF.out wr (c :: t) HRR.out⟩
          simp [results, Tryd.f33, go_sem, u0, u1, u2]
        · have ez : (sg c != 0) = true := by simp [hz]
          have HZ := Lib.hid hz
          clear hz t0 t1 t2 t3 t4 t5 u0 u1 u2 HF
          go_wp2_with fail
          refine (SG.out c _).mono ?_
          rintro e v4 ⟨rfl, rfl⟩
          go_wp2_with fail
          rw [ext_tail]
          obtain ⟨m1, hm1, hm2, hm3⟩ := HM.out
          obtain ⟨m2, rfl⟩ : ∃ m2, m1 = m2 + 1 := ⟨m1 - 1, by omega⟩
          simp only [List.length_cons] at hm2
          refine (KL.out m2 wr t (by omega) (by omega)).mono ?_
          intro e w3 hE
          obtain ⟨op2, la2, of2, r2, p2, c2, no2, he, hb3, hst⟩ : ∃ (op2 la2 : Int) (of2 : Fms) (r2 : List UInt8) (p2 : Option Addr) (c2 : Nat) (no2 : Int), e = .returned (.tuple #[.agg #[.int .i64 op2, .int .i64 la2, .slice p2 of2.len c2], str r2, .int .i64 no2]) ∧ Below wr.heap.size wr w3 ∧
              ((no2 = 0 ∧ r2.length + 1 ≤ t.length ∧ R0 = lp m2 (sg c) 0 (.cons op1 la1 of1 (.cons op2 la2 of2 .nil)) r2 ∧ SlZ (fun k => wr.heap.size ≤ k) w3 (.slice p2 of2.len c2) of2) ∨ (no2 ≠ 0 ∧ R0 = .bad no2 ∧ r2 = [])) := by
            generalize hL : prs m2 (Md.lev j) o t = pr at hE
            cases pr with
            | bad x =>
              obtain ⟨⟨rfl, hx⟩, hb2⟩ := hE
              exact ⟨0, 0, .nil, [], none, 0, x, rfl, hb2, .inr ⟨hx, by rw [hm3]; exact LP1.out m2 op1 la1 of1 (c :: t) x HZ.out hL, rfl⟩⟩
            | ok op la of r =>
              obtain ⟨⟨s', rfl, hs'⟩, hb2⟩ := hE
              obtain ⟨p', cap', rfl⟩ := hs'.is.slice
              exact ⟨op, la, of, r, p', cap', 0, rfl, hb2, .inl ⟨rfl, SH.out _ _ _ _ _ _ hL, by rw [hm3]; exact LP2.out m2 op1 la1 of1 (c :: t) op la of r HZ.out hL, hs'⟩⟩
          subst he
          have hbx3 := (hb3.block bx (lt_of_block HR.out.box)).trans HR.out.box
          have hres3 := (hb3.block b0 (lt_of_block HR.out.res)).trans HR.out.res
          have hbw3 := HR.out.below.trans (hb3.mono HR.out.below.size)
          obtain ⟨V, hV⟩ : ∃ V, V = w3.alloc (.cells #[.int .i64 op2, .int .i64 la2, .slice p2 of2.len c2] 26) := ⟨_, rfl⟩
          obtain ⟨bg, hbg⟩ : ∃ b, b = w3.heap.size := ⟨_, rfl⟩
          have hbV : Below w3.heap.size w3 V := by rw [hV]; exact (Below.refl _ w3).alloc (Nat.le_refl _) _
          have hkg : V.heap[bg]? = some (.cells #[.int .i64 op2, .int .i64 la2, .slice p2 of2.len c2] 26 (0, 0)) := by rw [hV, hbg]; exact block_alloc_new w3 _
          have hbxV := (hbV.block bx (lt_of_block hbx3)).trans hbx3
          have hresV := (hbV.block b0 (lt_of_block hres3)).trans hres3
          have hbwV := hbw3.trans (hbV.mono hbw3.size)
          obtain ⟨kk, hkk⟩ : ∃ k, k = V.heap.size := ⟨_, rfl⟩
          obtain ⟨V3, hV3⟩ : ∃ V3, V3 = ((V.setCell ⟨bx, 0, none⟩ (.int .i64 (sg c))).setCell ⟨bx, 1, none⟩ (.int .i64 0)).setCell ⟨bx, 2, none⟩ (.slice (some ⟨kk, 0, none⟩) 2 2) := ⟨_, rfl⟩
          have hs3z : V3.heap.size = kk := by rw [hV3, hkk]; simp [World.setCell]
          obtain ⟨V2, hV2⟩ : ∃ V2, V2 = V3.alloc (.cells #[.int .i64 op1, .int .i64 la1, .slice p1 of1.len c1, .int .i64 op2, .int .i64 la2, .slice p2 of2.len c2] 26) := ⟨_, rfl⟩
          have hbV2 : Below V3.heap.size V3 V2 := by rw [hV2]; exact (Below.refl _ V3).alloc (Nat.le_refl _) _
          have hkk2 : V2.heap[kk]? = some (.cells #[In op1, In la1, .slice p1 of1.len c1, In op2, In la2, .slice p2 of2.len c2] 26 (0, 0)) := by rw [hV2, ← hs3z]; exact block_alloc_new V3 _
          have x3 := cell_of (o := 0) (v := .int .i64 op1) hbxV rfl
          have x4 := cell_of (o := 1) (v := .int .i64 la1) hbxV rfl
          have x5 := cell_of (o := 2) (v := .slice p1 of1.len c1) hbxV rfl
          have y0 := cell_of (o := 0) (v := .int .i64 op2) hkg rfl
          have y1 := cell_of (o := 1) (v := .int .i64 la2) hkg rfl
          have y2 := cell_of (o := 2) (v := .slice p2 of2.len c2) hkg rfl
          obtain ⟨⟨t0, t1⟩, ⟨t2, t3⟩, ⟨t4, t5⟩, t6⟩ := store3 hbxV (.int .i64 (sg c)) (.int .i64 0) (.slice (some ⟨kk, 0, none⟩) 2 2)
          rw [← hV3] at t6
          have hne : b0 ≠ bx := by omega
          have hbxk : bx < V.heap.size := lt_of_block hbxV
          have hb0k : b0 < V.heap.size := lt_of_block hresV
          have hc3 : Chg (fun k => k = bx) V V3 := by
            rw [hV3]
            exact (((Chg.refl (fun k => k = bx) V).setCell (p := ⟨bx, 0, none⟩) (fun _ => rfl) _).setCell (p := ⟨bx, 1, none⟩) (fun _ => rfl) _).setCell (p := ⟨bx, 2, none⟩) (fun _ => rfl) _
          have hs13 : SlZ (fun k => b0 < k ∧ k ≠ bx) V2 (.slice p1 of1.len c1) of1 := (((HS1.out.later hb3).later hbV).keep hc3 (fun k hk e => hk.2 e)).later hbV2
          have hbw2 := hbwV.trans (hc3.below (B := w.heap.size) (fun k _ e => by have := HB0.out; omega) hbwV.size)
          have hnew : LRel w b0 bx n j R0 lp r2 no2 (sg c) 0 (.cons op1 la1 of1 (.cons op2 la2 of2 .nil)) (some ⟨kk, 0, none⟩) 2 V2 := by
            have hb0 := HB0.out
            refine ⟨hbw2.trans (hbV2.mono hbw2.size), (hbV2.block b0 (by omega)).trans (hc3.keep hresV (by omega)), (hbV2.block bx (by omega)).trans t6, ?_⟩
            rcases hst with ⟨h1, h2, h3, h4⟩ | ⟨h1, h2, h3⟩
            · left
              refine ⟨h1, ⟨m2, by omega, by omega, h3⟩, ?_⟩
              have hwr := lt_of_block HR.out.box
              have h5 := (((h4.later hbV).mono (Z' := fun k => b0 < k ∧ k ≠ bx) (fun k hk => ⟨by omega, by omega⟩)).keep hc3 (fun k hk e => hk.2 e)).later hbV2
              exact twoZ hkk2 ⟨by omega, by omega⟩ hs13 h5 2
            · exact .inr ⟨h1, h2, h3⟩
          have hlen2 : r2.length + 1 ≤ t.length + 1 := by
            rcases hst with ⟨_, h2, _⟩ | ⟨_, _, h3⟩
            · omega
            · subst h3; simp
          have HNEW := Lib.hid hnew
          clear hnew hst hs13 hc3 hkk2 hbw2 hs3z hkg hbxV hresV hbwV hbx3 hres3 hbw3 hb3 hbV hbV2 hE x0 x1 x2 t6
          go_upto_region 7 with fail
          rw [← hV, ← hbg]
          clear hV hbg
          go_wp2_with fail
          rw [← hkk, ← hV3, ← hV2]
          clear hkk hV2 hV3
          go_roundg (r2.length + 1)
          case measure => simp at hgk; omega
          case rel => exact ⟨sg c, 0, .cons op1 la1 of1 (.cons op2 la2 of2 .nil), r2, some ⟨kk, 0, none⟩, 2, no2, rfl, rfl, Nat.le_refl _, HNEW⟩
    · have en : (no == 0) = false := by simp [hno]
      have en2 : (no != 0) = true := by simp [hno]
      obtain ⟨⟨t0, t1⟩, ⟨t2, t3⟩, ⟨t4, t5⟩, t6⟩ := store3 HR.out.res (.int .i64 0) (.int .i64 0) (.slice none 0 0)
      have u0 := cell_of (o := 0) (v := .int .i64 0) t6 rfl
      have u1 := cell_of (o := 1) (v := .int .i64 0) t6 rfl
      have u2 := cell_of (o := 2) (v := .slice none 0 0) t6 rfl
      have HRR := Lib.hid hR0
      have HNO := Lib.hid hno
      clear hbk t6 hR0 hno
      go_wp2
      refine ⟨rfl, .tuple #[.agg #[.int .i64 0, .int .i64 0, .slice none 0 0], str [], .int .i64 no], ?_, ?_⟩
      · simp [results, Tryd.f33, go_sem, u0, u1, u2]
      · rw [HRR.out]
        exact ⟨⟨rfl, HNO.out⟩, (st3 HB0.out HR.out.below _ _ _).1⟩
end Go.Proofs.YthbkdbnalkeieaaDoor
