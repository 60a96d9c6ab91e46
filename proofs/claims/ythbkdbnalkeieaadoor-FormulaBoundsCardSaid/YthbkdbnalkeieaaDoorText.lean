/- The walk of text and Text. -/
import Derived.Test.YthbkdbnalkeieaaDoorCheck
import Derived.Test.YthbkdbnalkeieaaDoorShelf
import Derived.Deep.RegionWith
namespace Go.Proofs.YthbkdbnalkeieaaDoor
open Go.RowKit Go.Sort Go.Shelf

/-- A world in which all that lies in W lies as it lay. -/
structure Ext (W : World) where
  w : World
  b : Below W.heap.size W w
theorem Ext.cell {W : World} {p : Addr} {v : Value} (h : W.cell? p = some v) (x : Ext W) : x.w.cell? p = some v :=
  (x.b.cell (World.block_lt_of_cell? W _ h)).trans h
def Ext.drew (W : World) : Ext W := ⟨{ W with drawn := W.drawn + 1 }, (Below.refl _ W).drew⟩
instance (W : World) : Nonempty (Ext W) := ⟨Ext.drew W⟩
/-- A call from a later world ends in a later world. -/
theorem Ext.calls {W : World} (x : Ext W) {f : FuncId} {args : Array Value} {v : Value} (h : Calls Tryd.prog f args x.w fun e w' => e = .returned v ∧ Below x.w.heap.size x.w w') :
    Calls Tryd.prog f args x.w fun e w' => e = .returned v ∧ ∃ y : Ext W, w' = y.w :=
  h.mono fun _ w' hh => ⟨hh.1, ⟨w', x.b.trans (hh.2.mono x.b.size)⟩, rfl⟩

abbrev str (l : List UInt8) : Value := .string ⟨l.toArray⟩

def sgn (op : Int) : UInt8 := if op = 3 then 38 else if op = 4 then 45 else if op = 5 then 94 else 124
/-- One formula's text, of the texts of those in it. -/
def txt1 (op la : Int) (l : List (List UInt8)) : List UInt8 :=
  if op = 1 then 76 :: Lib.decDigits la.toNat else if op = 2 then 33 :: l.headD [] else
    40 :: (l.headD [] ++ (sgn op :: ((l.drop 1).headD [] ++ [41])))
def txts : Fms → List (List UInt8)
  | .nil => []
  | .cons op la of r => txt1 op la (txts of) :: txts r
def txt (op la : Int) (of : Fms) : List UInt8 := txt1 op la (txts of)

theorem foldM_all : ∀ (F : Fms) (d n : Int), foldM F d n ≠ none → F.All fun op la of => meas op la of ≠ none
  | .nil, _, _, _ => trivial
  | .cons op la of r, d, n, h => by
    rw [foldM_cons] at h
    cases hm : meas op la of with
    | none => rw [hm] at h; exact absurd rfl h
    | some p => rw [hm] at h; exact ⟨(fun e => absurd (hm.symm.trans e) (by simp)), foldM_all r _ _ h⟩
theorem meas_fine {op la : Int} {of : Fms} (h : meas op la of ≠ none) : fine op la of.len ∧ of.All fun op la of => meas op la of ≠ none := by
  unfold meas at h
  split at h
  · refine ⟨by assumption, foldM_all of 0 1 ?_⟩
    intro e
    rw [e] at h
    exact h rfl
  · exact absurd rfl h

theorem inter_flat : ∀ l : List (List UInt8), (l.intersperse []).flatten = l.flatten
  | [] => rfl
  | [x] => rfl
  | x :: y :: r => by
    have h := inter_flat (y :: r)
    rw [List.intersperse_cons_cons] 
    simp only [List.flatten_cons, List.nil_append] at h ⊢
    rw [h]
theorem join_flat (l : List (List UInt8)) : Lib.join l [] = l.flatten := inter_flat l

theorem dec_len {n : Nat} (h : n < 16) : (Lib.decDigits n).length ≤ 2 := by
  by_cases h1 : n < 10
  · rw [Lib.decDigits_one h1]; simp
  · rw [Lib.decDigits_two h1 (by omega)]; simp
theorem heads_len (l : List (List UInt8)) : (l.headD []).length + ((l.drop 1).headD []).length ≤ l.flatten.length := by
  match l with
  | [] => simp
  | [x] => simp
  | x :: y :: r => simp
theorem txt1_len {op la : Int} {n : Nat} (h : fine op la n) (l : List (List UInt8)) : (txt1 op la l).length ≤ 3 + l.flatten.length := by
  have hh := heads_len l
  unfold txt1
  split
  · have := dec_len (n := la.toNat) (by have := h.2.2.1; have := h.2.1; omega)
    simp only [List.length_cons]; omega
  · split
    · simp only [List.length_cons]; omega
    · simp only [List.length_cons, List.length_append, List.length_nil]; omega
theorem txts_len : ∀ {F : Fms}, (F.All fun op la of => meas op la of ≠ none) → (txts F).flatten.length ≤ 3 * F.size
  | .nil, _ => by simp [txts, Fms.size]
  | .cons op la of r, h => by
    have hf := meas_fine h.1
    have h1 := txts_len hf.2
    have h2 := txts_len h.2
    have h3 := txt1_len hf.1 (txts of)
    simp only [txts, List.flatten_cons, List.length_append, Fms.size]
    omega
theorem txt_len {op la : Int} {of : Fms} (h : meas op la of ≠ none) : (txt op la of).length ≤ 3 * of.size + 3 := by
  have hf := meas_fine h
  have h1 := txts_len hf.2
  have h3 := txt1_len hf.1 (txts of)
  unfold txt
  omega

theorem joined_any (b : Nat) (xs : List (List UInt8)) (w : World) (hc : ∀ (j : Nat) x, xs[j]? = some x → w.cell? ⟨b, 0 + j, none⟩ = some (str x)) (hb : b < w.heap.size) (hx : xs.length < 100) (hlen : xs.flatten.length ≤ 140737488355328) :
    Calls Tryd.prog 56 #[.slice (some ⟨b, 0, none⟩) xs.length xs.length] w fun e w' => e = .returned (str xs.flatten) ∧ Below w.heap.size w w' := by
  have hmm : ((xs.map fun l => (⟨l.toArray⟩ : ByteArray)).map (·.data.toList)) = xs := by simp [List.map_map, Function.comp_def]
  have hJ := Tryd.strings_Join b 0 xs.length (xs.map fun l => (⟨l.toArray⟩ : ByteArray)) ⟨#[]⟩ w (fun j x hj => by
    rw [List.getElem?_map] at hj
    cases hxj : xs[j]? with
    | none => rw [hxj] at hj; cases hj
    | some y => rw [hxj] at hj; cases hj; exact hc j y hxj) hb (by simp; omega) (by simp) (by rw [hmm]; show (Lib.join xs []).length ≤ _; rw [join_flat]; exact hlen)
  rw [hmm] at hJ
  have e : Lib.join xs (⟨#[]⟩ : ByteArray).data.toList = xs.flatten := join_flat xs
  rw [e, List.length_map] at hJ
  have HJ := Lib.hid hJ
  clear hJ hmm e hc
  go_enter Tryd.func56, Tryd.ntmps56
  go_wp2_with fail
  refine HJ.out.mono ?_
  rintro e w' ⟨rfl, hb'⟩
  go_wp2
  go_ret
  exact ⟨rfl, hb'⟩

theorem joined_new (b : Nat) (xs : List (List UInt8)) (W : World) (hb : b = W.heap.size) (hx : xs.length < 100) (hlen : xs.flatten.length ≤ 140737488355328) :
    Calls Tryd.prog 56 #[.slice (some ⟨b, 0, none⟩) xs.length xs.length] (W.alloc (.cells (xs.map str).toArray 9)) fun e w' => e = .returned (str xs.flatten) ∧ Below W.heap.size W w' := by
  subst hb
  refine (joined_any W.heap.size xs _ (fun j x hj => ?_) (by simp) hx hlen).mono ?_
  · refine cell_of (block_alloc_new W _) ?_
    simp [hj]
  · rintro e w' ⟨rfl, h⟩
    have hB : Below W.heap.size W (W.alloc (.cells (xs.map str).toArray 9)) := (Below.refl _ W).alloc (Nat.le_refl _) _
    exact ⟨rfl, hB.trans (h.mono hB.size)⟩

/-- text's contract at a formula. -/
def TextOk (op la : Int) (of : Fms) : Prop :=
  ∀ (s : Value) (w : World), meas op la of ≠ none → of.size < 1000000000000 → SlIs w s of → Calls Tryd.prog 40 #[.agg #[.int .i64 op, .int .i64 la, s]] w fun e w' => e = .returned (str (txt op la of)) ∧ Below w.heap.size w w'

theorem len_zero {F : Fms} (h : F.len = 0) : F = .nil := by cases F with | nil => rfl | cons => simp [Fms.len] at h
theorem len_one {F : Fms} (h : F.len = 1) : ∃ op la of, F = .cons op la of .nil := by
  cases F with
  | nil => simp [Fms.len] at h
  | cons op la of r => exact ⟨op, la, of, by rw [len_zero (F := r) (by simpa [Fms.len] using h)]⟩
theorem len_two {F : Fms} (h : F.len = 2) : ∃ op la of op' la' of', F = .cons op la of (.cons op' la' of' .nil) := by
  cases F with
  | nil => simp [Fms.len] at h
  | cons op la of r =>
    obtain ⟨op', la', of', e⟩ := len_one (F := r) (by simpa [Fms.len] using h)
    exact ⟨op, la, of, op', la', of', by rw [e]⟩
/-- The ways of a formula that may be. -/
theorem ways {op la : Int} {of : Fms} (h : meas op la of ≠ none) : (op = 1 ∧ of = .nil ∧ 0 ≤ la ∧ la < 16) ∨ (op = 2 ∧ ∃ o l f, of = .cons o l f .nil ∧ meas o l f ≠ none) ∨
    (3 ≤ op ∧ op ≤ 6 ∧ ∃ o l f o' l' f', of = .cons o l f (.cons o' l' f' .nil) ∧ meas o l f ≠ none ∧ meas o' l' f' ≠ none) := by
  obtain ⟨⟨h1, h2, h3, h4⟩, hall⟩ := meas_fine h
  unfold needs at h1
  by_cases e1 : op = 1
  · rw [if_pos e1] at h1
    exact .inl ⟨e1, len_zero (by omega), h2, h3⟩
  · rw [if_neg e1] at h1
    by_cases e2 : op = 2
    · rw [if_pos e2] at h1
      obtain ⟨o, l, f, rfl⟩ := len_one (F := of) (by omega)
      exact .inr (.inl ⟨e2, o, l, f, rfl, hall.1⟩)
    · rw [if_neg e2] at h1
      by_cases e3 : 3 ≤ op ∧ op ≤ 6
      · rw [if_pos e3] at h1
        obtain ⟨o, l, f, o', l', f', rfl⟩ := len_two (F := of) (by omega)
        exact .inr (.inr ⟨e3.1, e3.2, o, l, f, o', l', f', rfl, hall.1, hall.2.1⟩)
      · rw [if_neg e3] at h1
        omega

set_option maxHeartbeats 4000000 in
set_option maxRecDepth 100000 in
theorem text_step (op la : Int) (of : Fms) (IH : of.All TextOk) : TextOk op la of := by
  intro s w hm hsz hs
  obtain ⟨p, cap, rfl⟩ := hs.slice
  have hIta := fun (w' : World) (i : Nat) (hi : i < 100) => Tryd.strconv_Itoa_small i hi w'
  rcases ways hm with ⟨rfl, rfl, h2, h3⟩ | ⟨rfl, o, l, f, rfl, hm1⟩ | ⟨h3, h6, o, l, f, o', l', f', rfl, hm1, hm2⟩
  · obtain ⟨n, rfl⟩ : ∃ n : Nat, la = n := ⟨la.toNat, by omega⟩
    have HI := Lib.hid hIta
    clear hIta hs IH hm
    go_enter Tryd.func40, Tryd.ntmps40
    go_wp2_with fail
    refine (HI.out _ n (by omega)).mono ?_
    rintro e w1 ⟨rfl, rfl⟩
    go_wp2_with fail
    refine (joined_new _ [[76], Lib.decDigits n] (w.alloc (.cells #[.int .i64 1, .int .i64 n, .slice p Fms.nil.len cap] 26)) (by simp) (by simp) (by have := dec_len (n := n) (by omega); simp; omega)).mono ?_
    rintro e w1 ⟨rfl, hb1⟩
    have hB : Below w.heap.size w w1 := ((Below.refl _ w).alloc (Nat.le_refl _) _).trans (hb1.mono (by simp))
    go_wp2
    go_ret
    refine ⟨?_, hB⟩
    unfold txt txt1
    simp
  · obtain ⟨b, off, e, ⟨s1, r0, r1, r2, hs1⟩, _⟩ := hs.at (i := 0) (by simp [Fms.len])
    subst e
    have hs1' : SlIs w s1 f := hs1
    obtain ⟨p1, cap1, rfl⟩ := hs1'.slice
    have hIH := IH.1
    clear hIta hs IH hs1
    change Calls Tryd.prog 40 #[.agg #[.int .i64 2, .int .i64 la, .slice (some ⟨b, off, none⟩) 1 cap]] w _
    have HS1 := Lib.hid hs1'
    have HIH := Lib.hid hIH
    clear hs1' hIH
    go_enter Tryd.func40, Tryd.ntmps40
    go_upto_region 5 with fail
    obtain ⟨W, hW⟩ : ∃ W, W = w.alloc (.cells #[.int .i64 2, .int .i64 la, .slice (some ⟨b, off, none⟩) 1 cap] 26) := ⟨_, rfl⟩
    rw [← hW]
    have hblk : W.heap[w.heap.size]? = some (.cells #[.int .i64 2, .int .i64 la, .slice (some ⟨b, off, none⟩) 1 cap] 26 (0, 0)) := by rw [hW]; exact block_alloc_new w _
    have c2 : W.cell? ⟨w.heap.size, 2, none⟩ = some (.slice (some ⟨b, off, none⟩) 1 cap) := cell_of hblk rfl
    have hB : Below w.heap.size w W := by rw [hW]; exact (Below.refl _ w).alloc (Nat.le_refl _) _
    have q0 := (hB.cell (World.block_lt_of_cell? w _ r0)).trans r0
    have q1 := (hB.cell (World.block_lt_of_cell? w _ r1)).trans r1
    have q2 := (hB.cell (World.block_lt_of_cell? w _ r2)).trans r2
    have HB := Lib.hid hB
    clear hW hblk hB r0 r1 r2
    have hf1 : f.size < 1000000000000 := by simp only [Fms.size] at hsz; omega
    go_wp2_with fail
    refine (HIH.out _ W hm1 hf1 (HS1.out.later HB.out)).mono ?_
    rintro e w1 ⟨rfl, hb1⟩
    have hB1 := Lib.hid (HB.out.trans (hb1.mono HB.out.size))
    clear hb1
    go_wp2_with fail
    refine (joined_new _ [[33], txt o l f] w1 rfl (by simp) (by have := txt_len hm1; simp; omega)).mono ?_
    rintro e w2 ⟨rfl, hb2⟩
    have hB2 := hB1.out.trans (hb2.mono hB1.out.size)
    go_wp2
    go_ret
    refine ⟨?_, hB2⟩
    unfold txt
    simp [txt1, txts]
  · obtain ⟨b, off, e, ⟨s1, r0, r1, r2, hs1⟩, ⟨s2, r3, r4, r5, hs2⟩, _⟩ := hs.at (i := 0) (by simp [Fms.len])
    subst e
    have hs1' : SlIs w s1 f := hs1
    have hs2' : SlIs w s2 f' := hs2
    obtain ⟨p1, cap1, rfl⟩ := hs1'.slice
    obtain ⟨p2, cap2, rfl⟩ := hs2'.slice
    have HIH := Lib.hid IH.1
    have HIH2 := Lib.hid IH.2.1
    clear hIta hs IH hs1 hs2
    change Calls Tryd.prog 40 #[.agg #[.int .i64 op, .int .i64 la, .slice (some ⟨b, off, none⟩) 2 cap]] w _
    have HS1 := Lib.hid hs1'
    have HS2 := Lib.hid hs2'
    clear hs1' hs2'
    have hf1 : f.size < 1000000000000 := by simp only [Fms.size] at hsz; omega
    have hf2 : f'.size < 1000000000000 := by simp only [Fms.size] at hsz; omega
    have hl1 := txt_len hm1
    have hl2 := txt_len hm2
    have hfs : f.size + f'.size < 1000000000000 := by simp only [Fms.size] at hsz; omega
    have hop : op = 3 ∨ op = 4 ∨ op = 5 ∨ op = 6 := by omega
    clear h3 h6
    have g1 : (op == 1) = false := by rcases hop with rfl | rfl | rfl | rfl <;> rfl
    have g2 : (op == 2) = false := by rcases hop with rfl | rfl | rfl | rfl <;> rfl
    go_enter Tryd.func40, Tryd.ntmps40
    go_upto_region 6 with fail
    go_cut [3] (fun s3 wx => s3 = str [sgn op] ∧ wx = w.alloc (.cells #[.int .i64 op, .int .i64 la, .slice (some ⟨b, off, none⟩) 2 cap] 26))
    case first =>
      rcases hop with rfl | rfl | rfl | rfl
      all_goals
        go_wp2_with fail
        go_meet
        exact ⟨by rfl, rfl⟩
    case rest =>
      obtain ⟨rfl, hW⟩ := hcut
      have hblk : wc.heap[w.heap.size]? = some (.cells #[.int .i64 op, .int .i64 la, .slice (some ⟨b, off, none⟩) 2 cap] 26 (0, 0)) := by rw [hW]; exact block_alloc_new w _
      have hB : Below w.heap.size w wc := by rw [hW]; exact (Below.refl _ w).alloc (Nat.le_refl _) _
      have c2 := fun x : Ext wc => Ext.cell (show wc.cell? ⟨w.heap.size, 2, none⟩ = some (.slice (some ⟨b, off, none⟩) 2 cap) from cell_of hblk rfl) x
      have q0 := fun x : Ext wc => Ext.cell ((hB.cell (World.block_lt_of_cell? w _ r0)).trans r0) x
      have q1 := fun x : Ext wc => Ext.cell ((hB.cell (World.block_lt_of_cell? w _ r1)).trans r1) x
      have q2 := fun x : Ext wc => Ext.cell ((hB.cell (World.block_lt_of_cell? w _ r2)).trans r2) x
      have q3 := fun x : Ext wc => Ext.cell ((hB.cell (World.block_lt_of_cell? w _ r3)).trans r3) x
      have q4 := fun x : Ext wc => Ext.cell ((hB.cell (World.block_lt_of_cell? w _ r4)).trans r4) x
      have q5 := fun x : Ext wc => Ext.cell ((hB.cell (World.block_lt_of_cell? w _ r5)).trans r5) x
      have HB := Lib.hid hB
      have K1 : Hid (∀ x : Ext wc, Calls Tryd.prog 40 #[.agg #[.int .i64 o, .int .i64 l, .slice p1 f.len cap1]] x.w fun e w' => e = .returned (str (txt o l f)) ∧ ∃ y : Ext wc, w' = y.w) :=
        Lib.hid fun x => x.calls (HIH.out _ _ hm1 hf1 ((HS1.out.later hB).later x.b))
      have K2 : Hid (∀ x : Ext wc, Calls Tryd.prog 40 #[.agg #[.int .i64 o', .int .i64 l', .slice p2 f'.len cap2]] x.w fun e w' => e = .returned (str (txt o' l' f')) ∧ ∃ y : Ext wc, w' = y.w) :=
        Lib.hid fun x => x.calls (HIH2.out _ _ hm2 hf2 ((HS2.out.later hB).later x.b))
      clear hW hblk hB r0 r1 r2 r3 r4 r5 HIH HIH2 HS1 HS2
      go_upto_region 7 with fail
      refine wp_region_quiet_tail (fun X => ∃ x : Ext wc, X = x.w) 11 (by kernel_rfl) (by kernel_rfl) ⟨Ext.drew wc, rfl⟩ ?_
      simp only [List.take_succ_cons, List.take_zero, List.drop_succ_cons, List.drop_zero]
      repeat (go_big_quiet_step (first | (go_at_call_of 40 (Value.slice p1 f.len cap1); exact K1.out _) | (go_at_call_of 40 (Value.slice p2 f'.len cap2); exact K2.out _)))
      refine wpQuiet_nil ?_
      rintro _ ⟨x, rfl⟩
      go_wp2_with fail
      refine (joined_new _ [[40], txt o l f, [sgn op], txt o' l' f', [41]] x.w rfl (by simp) (by simp; omega)).mono ?_
      rintro e w2 ⟨rfl, hb2⟩
      have hx := HB.out.trans (x.b.mono HB.out.size)
      have hB2 := hx.trans (hb2.mono hx.size)
      go_wp2
      go_ret
      refine ⟨?_, hB2⟩
      have n1 : ¬ op = 1 := by rcases hop with rfl | rfl | rfl | rfl <;> decide
      have n2 : ¬ op = 2 := by rcases hop with rfl | rfl | rfl | rfl <;> decide
      unfold txt
      simp [txt1, txts, n1, n2]

theorem text_any (op la : Int) (of : Fms) : TextOk op la of := text_step op la of (Fms.all_of text_step of)
#print axioms text_any
end Go.Proofs.YthbkdbnalkeieaaDoor
