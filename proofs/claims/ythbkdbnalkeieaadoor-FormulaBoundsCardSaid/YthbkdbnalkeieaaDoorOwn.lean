/- The walk of own: a formula in memory of its own. -/
import Derived.Test.YthbkdbnalkeieaaDoorRead
import Derived.Deep.RegionHeld3
namespace Go.Proofs.YthbkdbnalkeieaaDoor
open Go.RowKit Go.Sort Go.Shelf

/-- The cells of a row, one behind the other. -/
def Row3 (w : World) (F : Fms) (news : List Value) : Prop :=
  news.length = F.len * 3 ∧ (∀ u ∈ news, u.oneCell' = true) ∧ ∀ i op la of, F.get i = some (op, la, of) → ∃ s, news[i * 3]? = some (In op) ∧ news[i * 3 + 1]? = some (In la) ∧ news[i * 3 + 2]? = some s ∧ SlIs w s of

theorem SlIs.one {w : World} {s : Value} {F : Fms} (h : SlIs w s F) : s.oneCell' = true := by
  obtain ⟨p, cap, rfl⟩ := h.slice
  rfl

theorem RowIs.cells {w : World} : ∀ {F : Fms} {b off : Nat}, RowIs w F b off → ∃ news, Row3 w F news ∧ ∀ j u, news[j]? = some u → w.cell? ⟨b, off + j, none⟩ = some u
  | .nil, _, _, _ => ⟨[], ⟨rfl, by simp, fun i _ _ _ h => by simp [Fms.get] at h⟩, by simp⟩
  | .cons op la of r, b, off, ⟨⟨s, h1, h2, h3, h4⟩, h5⟩ => by
    obtain ⟨news, ⟨n1, n2, n3⟩, n4⟩ := RowIs.cells h5
    have hs : SlIs w s of := h4
    refine ⟨In op :: In la :: s :: news, ⟨by simp [Fms.len]; omega, ?_, ?_⟩, ?_⟩
    · intro u hu
      simp at hu
      rcases hu with rfl | rfl | rfl | hu
      · rfl
      · rfl
      · exact hs.one
      · exact n2 u hu
    · intro i op' la' of' h
      cases i with
      | zero =>
        simp [Fms.get] at h
        obtain ⟨rfl, rfl, rfl⟩ := h
        exact ⟨s, by simp, by simp, by simp, hs⟩
      | succ i =>
        obtain ⟨s', a, b', c, d⟩ := n3 i op' la' of' h
        have e0 : (i + 1) * 3 = i * 3 + 3 := by omega
        rw [e0]
        exact ⟨s', by simpa using a, by simpa using b', by simpa using c, d⟩
    · intro j u hj
      rcases j with _ | _ | _ | j
      · simp at hj; subst hj; exact h1
      · simp at hj; subst hj; exact h2
      · simp at hj; subst hj; exact h3
      · simp at hj
        have := n4 j u hj
        rw [show off + (j + 1 + 1 + 1) = off + 3 + j by omega]
        exact this

/-- From its elements. -/
theorem RowZ.of_get {Z : Nat → Prop} {w : World} : ∀ {F : Fms} {b off : Nat}, (F.len ≠ 0 → Z b) → (∀ i op la of, F.get i = some (op, la, of) → ∃ s, w.cell? ⟨b, off + i * 3, none⟩ = some (In op) ∧ w.cell? ⟨b, off + i * 3 + 1, none⟩ = some (In la) ∧ w.cell? ⟨b, off + i * 3 + 2, none⟩ = some s ∧ SlZ Z w s of) → RowZ Z w F b off
  | .nil, _, _, _, _ => trivial
  | .cons op la of r, b, off, hz, h => by
    obtain ⟨s, h1, h2, h3, h4⟩ := h 0 op la of rfl
    refine ⟨hz (by simp [Fms.len]), ⟨s, by simpa using h1, by simpa using h2, by simpa using h3, h4⟩, RowZ.of_get (fun _ => hz (by simp [Fms.len])) ?_⟩
    intro i op' la' of' hg
    obtain ⟨s', k1, k2, k3, k4⟩ := h (i + 1) op' la' of' hg
    have e0 : off + (i + 1) * 3 = off + 3 + i * 3 := by omega
    rw [e0] at k1 k2 k3
    exact ⟨s', k1, k2, k3, k4⟩

theorem Tryd.info26 : (Tryd.prog.info? 26).map (fun i => (i.zero, i.size, i.bytes)) = some (some (.agg #[.int .i64 0, .int .i64 0, .slice none 0 0]), 3, 40) := by kernel_rfl

set_option maxHeartbeats 2000000 in
set_option maxRecDepth 100000 in
theorem clone_any (ad : Addr) (n c : Nat) (news : List Value) (w : World) (hl : news.length = n * 3) (hn : n ≤ 1000000)
    (hc : ∀ j u, news[j]? = some u → w.cell? (ad.add j) = some u) (h1 : ∀ u ∈ news, u.oneCell' = true) :
    Calls Tryd.prog 59 #[.slice (some ad) n c] w fun e w' => ∃ v', e = .returned v' ∧ w'.ownsRow w.heap.size 26 3 v' n news ∧ Below w.heap.size w w' := by
  obtain ⟨i0, hi, hz0, hz1, hz2⟩ := info_parts Tryd.info26
  have A := Lib.hid hc
  have q22 : ∀ (w : World) (a : Option Addr) (n c n' c' : Nat), (binOp .eql 24 (.slice a n c) (.slice none n' c')).run Tryd.prog w = .ok (.bool a.isNone) w := fun w a n c n' c' => Lib.run_eql_slice_nil w _ _ a n c n' c' Tryd.underlying24
  clear hc
  go_enter Tryd.func59, Tryd.ntmps59
  go_wp2_with (at_builtin; refine wpList_append_own _ rfl _ _ 24 rfl w.heap.size 26 i0 (.agg #[.int .i64 0, .int .i64 0, .slice none 0 0]) 3 40 Tryd.underlying24 hi hz0 hz1 hz2 rfl (by decide) _ _ _ rfl (World.ownsRow_made w #[] 0 (Nat.le_refl _) (Nat.zero_le _) (by simp)) ad n c news rfl ?qc1 ?qc2 ?qc3 ?qc4 ?qc5 ?qc6 ?_)
  case qc1 => exact hl
  case qc2 =>
    intro j u hj
    exact Lib.cell?_alloc_some _ (A.out j u hj)
  case qc3 => exact h1
  case qc4 => simp [maxLen]; omega
  case qc5 => omega
  case qc6 => simp
  intro v' w1 hown hgrow hnil
  go_wp2
  go_ret
  refine ⟨v', rfl, by simpa using hown, ?_⟩
  exact ((Below.refl _ w).alloc (Nat.le_refl _) _).grown hgrow (by simp) (by intro k hk; simp [Value.ownBlock] at hk; omega)

set_option maxHeartbeats 1000000 in
theorem clone_nil (n c : Nat) (w : World) : Calls Tryd.prog 59 #[.slice none n c] w fun e w' => e = .returned (.slice none 0 0) ∧ w' = w := by
  have q22 : ∀ (w : World) (a : Option Addr) (n c n' c' : Nat), (binOp .eql 24 (.slice a n c) (.slice none n' c')).run Tryd.prog w = .ok (.bool a.isNone) w := fun w a n c n' c' => Lib.run_eql_slice_nil w _ _ a n c n' c' Tryd.underlying24
  go_enter Tryd.func59, Tryd.ntmps59
  go_wp2
  go_ret
  exact ⟨rfl, rfl⟩

/-- A row's clone. -/
def CRow (w : World) (w' : World) (B : Nat) (F : Fms) (v : Value) : Prop :=
  ∃ p cap, v = .slice p F.len cap ∧ (F.len ≠ 0 → ∃ k c, p = some ⟨k, 0, none⟩ ∧ B ≤ k ∧ w'.heap[k]? = some (.cells c 26 (0, 0)) ∧ F.len * 3 ≤ c.size ∧
    ∀ j o l f, F.get j = some (o, l, f) → ∃ s, c[j * 3]? = some (In o) ∧ c[j * 3 + 1]? = some (In l) ∧ c[j * 3 + 2]? = some s ∧ SlIs w s f)

theorem get_lt : ∀ {F : Fms} {i : Nat} {x : Int × Int × Fms}, F.get i = some x → i < F.len
  | .nil, _, _, h => by simp [Fms.get] at h
  | .cons _ _ _ r, 0, _, _ => by simp [Fms.len]
  | .cons _ _ _ r, i + 1, _, h => by have := get_lt (F := r) h; simp [Fms.len]; omega

theorem take_get {l : List Value} {n j : Nat} {u : Value} (h : (l.take n)[j]? = some u) : l[j]? = some u := by
  rw [List.getElem?_take] at h
  split at h
  · exact h
  · cases h

theorem clone_row (F : Fms) (s : Value) (w0 w : World) (hs : SlIs w0 s F) (hb0 : Below w0.heap.size w0 w) (hn : F.len ≤ 1000000) :
    Calls Tryd.prog 59 #[s] w fun e w' => ∃ v, e = .returned v ∧ CRow w0 w' w.heap.size F v ∧ Below w.heap.size w w' := by
  rcases hs with ⟨rfl, p, cap, rfl⟩ | ⟨b, off, cap, rfl, hr⟩
  · cases p with
    | none => exact (clone_nil 0 cap w).mono fun e w' ⟨h1, h2⟩ => ⟨_, h1, ⟨none, 0, rfl, fun h => absurd rfl h⟩, h2 ▸ Below.refl _ _⟩
    | some a =>
      refine (clone_any a 0 cap [] w rfl (by omega) (by simp) (by simp)).mono ?_
      rintro e w' ⟨v', rfl, ⟨_, ho⟩, hb⟩
      refine ⟨v', rfl, ?_, hb⟩
      rcases ho with ⟨rfl, _⟩ | ⟨k, cap', cur, rfl, _⟩
      · exact ⟨none, 0, rfl, fun h => absurd rfl h⟩
      · exact ⟨_, cap', rfl, fun h => absurd rfl h⟩
  · obtain ⟨news, ⟨n1, n2, n3⟩, n4⟩ := hr.cells
    refine (clone_any ⟨b, off, none⟩ F.len cap news w n1 hn (fun j u hj => ?_) n2).mono ?_
    · rw [Addr.add_lit]
      have := n4 j u hj
      exact (hb0.cell (World.block_lt_of_cell? w0 _ this)).trans this
    rintro e w' ⟨v', rfl, ⟨_, ho⟩, hb⟩
    refine ⟨v', rfl, ?_, hb⟩
    rcases ho with ⟨rfl, h0⟩ | ⟨k, cap', cur, rfl, hk, hblk, h1, h2, h3, h4⟩
    · exact ⟨none, 0, by rw [h0], fun h => absurd h0 h⟩
    · refine ⟨_, cap', rfl, fun _ => ⟨k, cur, rfl, hk, hblk, by rw [h3]; omega, ?_⟩⟩
      intro j o l f hg
      obtain ⟨s, a, b', c, d⟩ := n3 j o l f hg
      rw [← h4] at a b' c
      exact ⟨s, by simpa using take_get a, by simpa using take_get b', by simpa using take_get c, d⟩

structure OwnRel (w : World) (b0 k : Nat) (op la : Int) (of : Fms) (p' : Option Addr) (cap' i : Nat) (wr : World) : Prop where
  below : Below b0 w wr
  fk : wr.heap[b0]? = some (.cells #[In op, In la, .slice p' of.len cap'] 26 (0, 0))
  res : wr.heap[b0 + 1]? = some (.cells #[In 0, In 0, .slice none 0 0] 26 (0, 0))
  rows : of.len ≠ 0 → p' = some ⟨k, 0, none⟩ ∧ b0 + 1 < k ∧ ∃ c, wr.heap[k]? = some (.cells c 26 (0, 0)) ∧ of.len * 3 ≤ c.size ∧
    ∀ j o l f, of.get j = some (o, l, f) → ∃ s, c[j * 3]? = some (In o) ∧ c[j * 3 + 1]? = some (In l) ∧ c[j * 3 + 2]? = some s ∧ (j < i → SlZ (fun x => k < x) wr s f) ∧ (i ≤ j → SlIs w s f)

/-- Three stores into a longer block. -/
theorem store3k {V : World} {k o : Nat} {c : Array Value} {t : TypeId} (h : V.heap[k]? = some (.cells c t (0, 0))) (hs : o + 2 < c.size) (x y z : Value) :
    (∃ a, V.cell? ⟨k, o, none⟩ = some a) ∧ V.frozen? ⟨k, o, none⟩ = false ∧
    (∃ a, (V.setCell ⟨k, o, none⟩ x).cell? ⟨k, o + 1, none⟩ = some a) ∧ (V.setCell ⟨k, o, none⟩ x).frozen? ⟨k, o + 1, none⟩ = false ∧
    (∃ a, ((V.setCell ⟨k, o, none⟩ x).setCell ⟨k, o + 1, none⟩ y).cell? ⟨k, o + 2, none⟩ = some a) ∧ ((V.setCell ⟨k, o, none⟩ x).setCell ⟨k, o + 1, none⟩ y).frozen? ⟨k, o + 2, none⟩ = false ∧
    (((V.setCell ⟨k, o, none⟩ x).setCell ⟨k, o + 1, none⟩ y).setCell ⟨k, o + 2, none⟩ z).heap[k]? = some (.cells (((c.setIfInBounds o x).setIfInBounds (o + 1) y).setIfInBounds (o + 2) z) t (0, 0)) := by
  have h1 := block_setCell (o := o) x h
  have h2 := block_setCell (o := o + 1) y h1
  have h3 := block_setCell (o := o + 2) z h2
  exact ⟨⟨_, cell_of h (Array.getElem?_eq_getElem (by omega))⟩, free_of h, ⟨_, cell_of h1 (Array.getElem?_eq_getElem (by simp; omega))⟩, free_of h1, ⟨_, cell_of h2 (Array.getElem?_eq_getElem (by simp; omega))⟩, free_of h2, h3⟩

theorem OwnRel.step {w : World} {b0 k : Nat} {op la : Int} {of : Fms} {p' : Option Addr} {cap' i : Nat} {wr w3 : World} (h : OwnRel w b0 k op la of p' cap' i wr) (hb0 : b0 = w.heap.size) {o l : Int} {f : Fms} (hget : of.get i = some (o, l, f)) {s' : Value}
    (hC : Below wr.heap.size wr w3) (hs : SlZ (fun x => wr.heap.size ≤ x) w3 s' f) :
    OwnRel w b0 k op la of p' cap' (i + 1) (((w3.setCell ⟨k, i * 3, none⟩ (In o)).setCell ⟨k, i * 3 + 1, none⟩ (In l)).setCell ⟨k, i * 3 + 2, none⟩ s') := by
  have hil := get_lt hget
  obtain ⟨hp, hk, c, hblk, hsz, hrow⟩ := h.rows (by omega)
  have hltk := lt_of_block hblk
  have hblk3 := (hC.block k hltk).trans hblk
  obtain ⟨_, _, _, _, _, _, t6⟩ := store3k hblk3 (o := i * 3) (by omega) (In o) (In l) s'
  have hCk : Chg (fun x => x = k) w3 (((w3.setCell ⟨k, i * 3, none⟩ (In o)).setCell ⟨k, i * 3 + 1, none⟩ (In l)).setCell ⟨k, i * 3 + 2, none⟩ s') :=
    (((Chg.refl (fun x => x = k) w3).setCell (p := ⟨k, i * 3, none⟩) (fun _ => rfl) _).setCell (p := ⟨k, i * 3 + 1, none⟩) (fun _ => rfl) _).setCell (p := ⟨k, i * 3 + 2, none⟩) (fun _ => rfl) _
  have hC0 : Chg (fun x => x = k) wr w3 := Chg.of_below hC
  have hbe : b0 ≤ wr.heap.size := by have := h.below.size; omega
  refine ⟨?_, hCk.keep (hC0.keep h.fk (by omega)) (by omega), hCk.keep (hC0.keep h.res (by omega)) (by omega), fun _ => ⟨hp, hk, _, t6, by simpa using hsz, ?_⟩⟩
  · exact (h.below.trans (hC.mono hbe)).trans (hCk.below (fun x _ e => by omega) (by have := hC.size; omega))
  · intro j o' l' f' hg
    obtain ⟨s, a1, a2, a3, a4, a5⟩ := hrow j o' l' f' hg
    by_cases hji : j = i
    · subst hji
      rw [hget] at hg
      simp at hg
      obtain ⟨rfl, rfl, rfl⟩ := hg
      refine ⟨s', ?_, ?_, ?_, fun _ => ?_, fun h => absurd h (by omega)⟩
      · simp [Array.getElem?_setIfInBounds]; omega
      · simp [Array.getElem?_setIfInBounds]; omega
      · simp [Array.getElem?_setIfInBounds]; omega
      · exact (hs.mono (Z' := fun x => k < x) (fun x hx => by omega)).keep hCk (fun x hx e => by omega)
    · refine ⟨s, ?_, ?_, ?_, fun hj => ((a4 (by omega)).keep hC0 (fun x hx e => by omega)).keep hCk (fun x hx e => by omega), fun hj => a5 (by omega)⟩
      · rw [Array.getElem?_setIfInBounds_ne (by omega), Array.getElem?_setIfInBounds_ne (by omega), Array.getElem?_setIfInBounds_ne (by omega)]; exact a1
      · rw [Array.getElem?_setIfInBounds_ne (by omega), Array.getElem?_setIfInBounds_ne (by omega), Array.getElem?_setIfInBounds_ne (by omega)]; exact a2
      · rw [Array.getElem?_setIfInBounds_ne (by omega), Array.getElem?_setIfInBounds_ne (by omega), Array.getElem?_setIfInBounds_ne (by omega)]; exact a3

def OwnOk (op la : Int) (of : Fms) : Prop :=
  ∀ (s : Value) (w : World), of.size < 1000000 → SlIs w s of → Calls Tryd.prog 44 #[.agg #[.int .i64 op, .int .i64 la, s]] w fun e w' => (∃ s', e = .returned (.agg #[.int .i64 op, .int .i64 la, s']) ∧ SlZ (fun k => w.heap.size ≤ k) w' s' of) ∧ Below w.heap.size w w'

set_option maxHeartbeats 4000000 in
set_option maxRecDepth 100000 in
theorem own_step (op la : Int) (of : Fms) (IH : of.All OwnOk) : OwnOk op la of := by
  intro s w hsz hs
  obtain ⟨p, cap, rfl⟩ := hs.slice
  obtain ⟨b0, hb0⟩ : ∃ b0, b0 = w.heap.size := ⟨_, rfl⟩
  obtain ⟨W, hW⟩ : ∃ W, W = (w.alloc (.cells #[.int .i64 op, .int .i64 la, .slice p of.len cap] 26)).alloc (.cells #[.int .i64 0, .int .i64 0, .slice none 0 0] 26) := ⟨_, rfl⟩
  have hB : Below b0 w W := by rw [hW, hb0]; exact ((Below.refl _ w).alloc (Nat.le_refl _) _).alloc (by simp) _
  have hK : W.heap[b0]? = some (.cells #[.int .i64 op, .int .i64 la, .slice p of.len cap] 26 (0, 0)) := by rw [hW, hb0]; exact block_alloc_old _ (block_alloc_new w _)
  have hK1 : W.heap[b0 + 1]? = some (.cells #[.int .i64 0, .int .i64 0, .slice none 0 0] 26 (0, 0)) := by
    have := block_alloc_new (w.alloc (.cells #[.int .i64 op, .int .i64 la, .slice p of.len cap] 26)) (.cells #[.int .i64 0, .int .i64 0, .slice none 0 0] 26)
    rw [World.size_alloc] at this
    rw [hW, hb0]
    exact this
  have HB := Lib.hid hB
  have HK := Lib.hid hK
  have HK1 := Lib.hid hK1
  have HIH := Lib.hid IH
  have HS := Lib.hid hs
  have HBW := Lib.hid (show Below w.heap.size w W by rw [← hb0]; exact hB)
  have hlen := Fms.len_le_size of
  clear hB hK hK1 IH hs
  go_enter Tryd.func44, Tryd.ntmps44
  go_upto_region 1 with fail
  rw [← hW, ← hb0]
  have HB0 := Lib.hid hb0
  clear hW hb0
  have c2 := cell_of (o := 2) (v := .slice p of.len cap) HK.out rfl
  go_wp2_with fail
  refine (clone_row of _ w W HS.out HBW.out (by omega)).mono ?_
  rintro e w1 ⟨v', rfl, ⟨p', cap', rfl, hrow⟩, hb1⟩
  clear c2
  have hk := (hb1.block b0 (lt_of_block HK.out)).trans HK.out
  have hk1 := (hb1.block (b0 + 1) (lt_of_block HK1.out)).trans HK1.out
  have c2 := cell_of (o := 2) (v := .slice p of.len cap) hk rfl
  have f2 := free_of (o := 2) hk
  obtain ⟨V, hV⟩ : ∃ V, V = w1.setCell ⟨b0, 2, none⟩ (.slice p' of.len cap') := ⟨_, rfl⟩
  obtain ⟨k, hR⟩ : ∃ k, OwnRel w b0 k op la of p' cap' 0 V := by
    have hcV : Chg (fun x => x = b0) w1 V := by rw [hV]; exact (Chg.refl (fun x => x = b0) w1).setCell (p := ⟨b0, 2, none⟩) (fun _ => rfl) _
    have e1 : Below b0 w V := (HB.out.trans (hb1.mono (Nat.le_of_lt (lt_of_block HK.out)))).trans (hcV.below (fun x _ e => by omega) (by have := lt_of_block hk; omega))
    have e2 : V.heap[b0]? = some (.cells #[In op, In la, .slice p' of.len cap'] 26 (0, 0)) := by rw [hV]; exact block_setCell (o := 2) _ hk
    have e3 := hcV.keep hk1 (by omega)
    by_cases h0 : of.len = 0
    · exact ⟨0, e1, e2, e3, fun h => absurd h0 h⟩
    · obtain ⟨k, c, hp, hkk, hblk, hcs, hr⟩ := hrow h0
      have hlt1 := lt_of_block HK1.out
      refine ⟨k, e1, e2, e3, fun _ => ⟨hp, by omega, c, hcV.keep hblk (by omega), hcs, ?_⟩⟩
      intro j o l f hg
      obtain ⟨s, a, b, c, d⟩ := hr j o l f hg
      exact ⟨s, a, b, c, fun h => absurd h (by omega), fun _ => d⟩
  have HR := Lib.hid hR
  have hlb : of.len ≤ 1000000 := by omega
  clear hR hk hk1 hrow hb1
  go_upto_region 2 with fail
  rw [← hV]
  clear hV c2 f2
  have c2 := cell_of (o := 2) (v := .slice p' of.len cap') HR.out.fk rfl
  go_wp2_with fail
  clear c2
  go_loopg [12] (of.len + 1) (fun gg s12 wr => ∃ i : Nat, s12 = .int .i64 i ∧ i ≤ of.len ∧ of.len + 1 ≤ gg + i ∧ Hid (OwnRel w b0 k op la of p' cap' i wr))
  case atStart => exact ⟨0, rfl, Nat.zero_le _, by omega, HR⟩
  case round =>
    obtain ⟨i, rfl, hi, hgk, HRr⟩ := hrel
    clear HR
    by_cases hlt : i < of.len
    · obtain ⟨op', la', of', hget, _⟩ := Fms.drop_get hlt
      have hlt' : (i : Int) < (of.len : Int) := by omega
      obtain ⟨rfl, hkb, c, hblk, hcs, hrow⟩ := HRr.out.rows (by omega)
      obtain ⟨s', a0, a1, a2, _, hs'⟩ := hrow i op' la' of' hget
      obtain ⟨p'', cap'', rfl⟩ := (hs' (Nat.le_refl i)).slice
      have c0 : wr.cell? ⟨k, i * 3, none⟩ = some (In op') := cell_of hblk a0
      have c1 : wr.cell? ⟨k, i * 3 + 1, none⟩ = some (In la') := cell_of hblk a1
      have c2 : wr.cell? ⟨k, i * 3 + 2, none⟩ = some (.slice p'' of'.len cap'') := cell_of hblk a2
      have HS' := Lib.hid (hs' (Nat.le_refl i))
      have HG := Lib.hid (Fms.All.at HIH.out hget)
      clear hs' hrow hcs hblk a0 a1 a2
      obtain ⟨A, hA⟩ : ∃ A, A = wr.alloc (.cells #[.int .i64 op', .int .i64 la', .slice p'' of'.len cap''] 26) := ⟨_, rfl⟩
      obtain ⟨tb, htb⟩ : ∃ tb, tb = wr.heap.size := ⟨_, rfl⟩
      have hbA : Below wr.heap.size wr A := by rw [hA]; exact (Below.refl _ wr).alloc (Nat.le_refl _) _
      have hkA : A.heap[tb]? = some (.cells #[In op', In la', .slice p'' of'.len cap''] 26 (0, 0)) := by rw [hA, htb]; exact block_alloc_new wr _
      have hfk := (hbA.block b0 (lt_of_block HRr.out.fk)).trans HRr.out.fk
      have hbe : b0 ≤ wr.heap.size := Nat.le_of_lt (lt_of_block HRr.out.fk)
      have hsA := HS'.out.later (w' := A) (by rw [← HB0.out]; exact HRr.out.below.trans (hbA.mono hbe))
      have hkb2 : k < tb := by
        obtain ⟨_, _, c, hblk, _⟩ := HRr.out.rows (by omega)
        rw [htb]; exact lt_of_block hblk
      have hstep : ∀ w3 s3, Below A.heap.size A w3 → SlZ (fun x => A.heap.size ≤ x) w3 s3 of' → OwnRel w b0 k op la of (some ⟨k, 0, none⟩) cap' (i + 1) (((w3.setCell ⟨k, i * 3, none⟩ (In op')).setCell ⟨k, i * 3 + 1, none⟩ (In la')).setCell ⟨k, i * 3 + 2, none⟩ s3) :=
        fun w3 s3 h1 h2 => HRr.out.step HB0.out hget (hbA.trans (h1.mono hbA.size)) (h2.mono (fun x hx => Nat.le_trans hbA.size hx))
      have hst : ∀ w3, Below A.heap.size A w3 → ∃ c', w3.heap[k]? = some (.cells c' 26 (0, 0)) ∧ i * 3 + 2 < c'.size := fun w3 h => by
        obtain ⟨_, _, c, hblk, hcs, _⟩ := HRr.out.rows (by omega)
        have h1 := (hbA.block k (lt_of_block hblk)).trans hblk
        exact ⟨c, (h.block k (lt_of_block h1)).trans h1, by omega⟩
      have hkeep : ∀ X, Below A.heap.size A X → X.cell? ⟨b0, 2, none⟩ = some (.slice (some ⟨k, 0, none⟩) of.len cap') ∧ X.cell? ⟨tb, 0, none⟩ = some (In op') ∧ X.cell? ⟨tb, 1, none⟩ = some (In la') ∧ X.cell? ⟨tb, 2, none⟩ = some (.slice p'' of'.len cap'') := fun X h => by
        have h1 := (h.block b0 (lt_of_block hfk)).trans hfk
        have h2 := (h.block tb (lt_of_block hkA)).trans hkA
        exact ⟨cell_of h1 rfl, cell_of h2 rfl, cell_of h2 rfl, cell_of h2 rfl⟩
      have hkeep2 : ∀ X u1 u2 u3, Below A.heap.size A X → (((X.setCell ⟨k, i * 3, none⟩ u1).setCell ⟨k, i * 3 + 1, none⟩ u2).setCell ⟨k, i * 3 + 2, none⟩ u3).cell? ⟨b0, 2, none⟩ = some (.slice (some ⟨k, 0, none⟩) of.len cap') ∧ (((X.setCell ⟨k, i * 3, none⟩ u1).setCell ⟨k, i * 3 + 1, none⟩ u2).setCell ⟨k, i * 3 + 2, none⟩ u3).cell? ⟨tb, 0, none⟩ = some (In op') ∧ (((X.setCell ⟨k, i * 3, none⟩ u1).setCell ⟨k, i * 3 + 1, none⟩ u2).setCell ⟨k, i * 3 + 2, none⟩ u3).cell? ⟨tb, 1, none⟩ = some (In la') ∧ (((X.setCell ⟨k, i * 3, none⟩ u1).setCell ⟨k, i * 3 + 1, none⟩ u2).setCell ⟨k, i * 3 + 2, none⟩ u3).cell? ⟨tb, 2, none⟩ = some (.slice p'' of'.len cap'') := fun X u1 u2 u3 h => by
        have hcs : Chg (fun x => x = k) X (((X.setCell ⟨k, i * 3, none⟩ u1).setCell ⟨k, i * 3 + 1, none⟩ u2).setCell ⟨k, i * 3 + 2, none⟩ u3) :=
          (((Chg.refl (fun x => x = k) X).setCell (p := ⟨k, i * 3, none⟩) (fun _ => rfl) _).setCell (p := ⟨k, i * 3 + 1, none⟩) (fun _ => rfl) _).setCell (p := ⟨k, i * 3 + 2, none⟩) (fun _ => rfl) _
        have h1 := hcs.keep ((h.block b0 (lt_of_block hfk)).trans hfk) (by omega)
        have h2 := hcs.keep ((h.block tb (lt_of_block hkA)).trans hkA) (by omega)
        exact ⟨cell_of h1 rfl, cell_of h2 rfl, cell_of h2 rfl, cell_of h2 rfl⟩
      have HSA := Lib.hid hsA
      have HST := Lib.hid hstep
      have HSTo := Lib.hid hst
      have HKP := Lib.hid hkeep
      have HKP2 := Lib.hid hkeep2
      have hszg := Fms.size_get hget
      have HBD : Hid (Below A.heap.size A A.drew) := Lib.hid (Below.refl _ A).drew
      clear hbA hkA hfk hbe hsA hstep hst hkeep hkeep2 hget HS' HS
      go_upto_region 5 with fail
      rw [← hA, ← htb]
      clear hA htb c0 c1 c2
      have hszo : of'.size < 1000000 := by omega
      go_region_held3 (fun X => X.cell? ⟨b0, 2, none⟩ = some (.slice (some ⟨k, 0, none⟩) of.len cap') ∧ X.cell? ⟨tb, 0, none⟩ = some (In op') ∧ X.cell? ⟨tb, 1, none⟩ = some (In la') ∧ X.cell? ⟨tb, 2, none⟩ = some (.slice p'' of'.len cap''))
        (first | exact HKP.out _ HBD.out | exact HKP.out _ (by assumption) | exact HKP2.out _ _ _ _ (by assumption))
        ((go_at_call 44; refine (HG.out (.slice p'' of'.len cap'') A.drew hszo (HSA.out.later HBD.out)).mono ?_; rintro e w3 ⟨⟨s3, rfl, hs3⟩, hb3⟩; obtain ⟨p3, cap3, rfl⟩ := hs3.is.slice; have hb3' := HBD.out.trans (hb3.mono HBD.out.size); obtain ⟨c', hc', hcs'⟩ := HSTo.out _ hb3'; obtain ⟨⟨x0, y0⟩, y1, ⟨x2, y2⟩, y3, ⟨x4, y4⟩, y5, y6⟩ := store3k hc' hcs' (In op') (In la') (.slice p3 of'.len cap3)))
      have hR2 := HST.out w3 _ hb3' hs3
      obtain ⟨Z, hZ⟩ : ∃ Z, Z = (((w3.setCell ⟨k, i * 3, none⟩ (In op')).setCell ⟨k, i * 3 + 1, none⟩ (In la')).setCell ⟨k, i * 3 + 2, none⟩ (.slice p3 of'.len cap3)) := ⟨_, rfl⟩
      rw [← hZ] at hR2 ⊢
      have HR2 := Lib.hid hR2
      clear hZ hR2 x0 x2 x4 y0 y1 y2 y3 y4 y5 y6 hc' hcs' hs3 hb3 hb3'
      go_wp2
      go_roundg (of.len - i)
      case measure => omega
      case rel => exact ⟨i + 1, by simp, by omega, by omega, HR2⟩
    · obtain rfl : i = of.len := by omega
      have hk := HRr.out.fk
      have u0 := cell_of (o := 0) (v := In op) hk rfl
      have u1 := cell_of (o := 1) (v := In la) hk rfl
      have u2 := cell_of (o := 2) (v := .slice p' of.len cap') hk rfl
      obtain ⟨⟨t0, t1⟩, ⟨t2, t3⟩, ⟨t4, t5⟩, t6⟩ := store3 HRr.out.res (In op) (In la) (.slice p' of.len cap')
      have v0 := cell_of (o := 0) (v := In op) t6 rfl
      have v1 := cell_of (o := 1) (v := In la) t6 rfl
      have v2 := cell_of (o := 2) (v := .slice p' of.len cap') t6 rfl
      clear hk t6
      go_wp2
      refine ⟨rfl, .agg #[.int .i64 op, .int .i64 la, .slice p' of.len cap'], ?_, ?_⟩
      · simp [results, Tryd.f44, go_sem, v0, v1, v2]
      · have hcs : Chg (fun x => x = b0 + 1) wr (((wr.setCell ⟨b0 + 1, 0, none⟩ (In op)).setCell ⟨b0 + 1, 1, none⟩ (In la)).setCell ⟨b0 + 1, 2, none⟩ (.slice p' of.len cap')) :=
          (((Chg.refl (fun x => x = b0 + 1) wr).setCell (p := ⟨b0 + 1, 0, none⟩) (fun _ => rfl) _).setCell (p := ⟨b0 + 1, 1, none⟩) (fun _ => rfl) _).setCell (p := ⟨b0 + 1, 2, none⟩) (fun _ => rfl) _
        have hlt := lt_of_block HRr.out.fk
        have hb := HB0.out
        refine ⟨⟨_, rfl, ?_⟩, ?_⟩
        · by_cases h0 : of.len = 0
          · cases of with
            | nil => exact .inl ⟨rfl, p', cap', rfl⟩
            | cons _ _ _ _ => simp [Fms.len] at h0
          · obtain ⟨rfl, hkb, c, hblk, hcs', hrow⟩ := HRr.out.rows h0
            refine .inr ⟨k, 0, cap', rfl, RowZ.of_get (fun _ => by omega) ?_⟩
            have hblk' := hcs.keep hblk (by omega)
            intro j o l f hg
            obtain ⟨s, a1, a2, a3, a4, _⟩ := hrow j o l f hg
            rw [Nat.zero_add]
            exact ⟨s, cell_of hblk' a1, cell_of hblk' a2, cell_of hblk' a3, ((a4 (get_lt hg)).mono (Z' := fun x => b0 + 1 < x) (fun x hx => by omega) |>.keep hcs (fun x hx e => by omega)).mono (fun x hx => by omega)⟩
        · rw [← hb]
          exact HRr.out.below.trans (hcs.below (fun x _ e => by omega) (by omega))

theorem own_any (op la : Int) (of : Fms) : OwnOk op la of := own_step op la of (Fms.all_of own_step of)
#print axioms own_any
end Go.Proofs.YthbkdbnalkeieaaDoor
