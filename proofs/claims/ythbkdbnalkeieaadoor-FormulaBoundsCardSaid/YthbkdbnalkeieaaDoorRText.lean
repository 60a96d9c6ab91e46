/- The walk of the reference's Text. -/
import Derived.Test.YthbkdbnalkeieaaDoorRLev
import Derived.Test.YthbkdbnalkeieaaDoorText
import Derived.Test.YthbkdbnalkeieaaDoorTail
namespace Go.Proofs.YthbkdbnalkeieaaDoor
open Go.RowKit Go.Sort Go.Shelf

theorem bapp (a b : List UInt8) : (⟨a.toArray⟩ ++ ⟨b.toArray⟩ : ByteArray) = ⟨(a ++ b).toArray⟩ := by
  apply ByteArray.ext
  simp

def RTextOk (op la : Int) (of : Fms) : Prop :=
  ∀ (s : Value) (w : World), meas op la of ≠ none → of.size < 1000000000000 → SlIs w s of → Calls Tryd.prog 22 #[.agg #[.int .i64 op, .int .i64 la, s]] w fun e w' => e = .returned (str (txt op la of)) ∧ Below w.heap.size w w'

set_option maxHeartbeats 4000000 in
set_option maxRecDepth 100000 in
theorem rtext_step (op la : Int) (of : Fms) (IH : of.All RTextOk) : RTextOk op la of := by
  intro s w hm hsz hs
  obtain ⟨p, cap, rfl⟩ := hs.slice
  rcases ways hm with ⟨rfl, rfl, h2, h3⟩ | ⟨rfl, o, l, f, rfl, hm1⟩ | ⟨h3, h6, o, l, f, o', l', f', rfl, hm1, hm2⟩
  · obtain ⟨n, rfl⟩ : ∃ n : Nat, la = n := ⟨la.toNat, by omega⟩
    clear hs IH hm
    go_enter Tryd.func22, Tryd.ntmps22
    go_wp2_with fail
    refine (number_any n (by omega) _).mono ?_
    rintro e w1 ⟨rfl, rfl⟩
    have hov : ¬ 9223372036854775807 < 1 + (Lib.decDigits n).length := by have := dec_len (n := n) (by omega); omega
    go_wp2
    go_ret
    refine ⟨?_, (Below.refl _ w).alloc (Nat.le_refl _) _⟩
    show Ending.returned (.string (⟨[76].toArray⟩ ++ ⟨(Lib.decDigits n).toArray⟩)) = _
    rw [bapp]
    simp [txt, txt1]
  · obtain ⟨b, off, e, ⟨s1, r0, r1, r2, hs1⟩, _⟩ := hs.at (i := 0) (by simp [Fms.len])
    subst e
    have hs1' : SlIs w s1 f := hs1
    obtain ⟨p1, cap1, rfl⟩ := hs1'.slice
    have hIH := IH.1
    clear hs IH hs1
    change Calls Tryd.prog 22 #[.agg #[.int .i64 2, .int .i64 la, .slice (some ⟨b, off, none⟩) 1 cap]] w _
    have HS1 := Lib.hid hs1'
    have HIH := Lib.hid hIH
    clear hs1' hIH
    obtain ⟨W, hW⟩ : ∃ W, W = w.alloc (.cells #[.int .i64 2, .int .i64 la, .slice (some ⟨b, off, none⟩) 1 cap] 26) := ⟨_, rfl⟩
    go_enter Tryd.func22, Tryd.ntmps22
    go_upto_region 1 with fail
    rw [← hW]
    have hblk : W.heap[w.heap.size]? = some (.cells #[.int .i64 2, .int .i64 la, .slice (some ⟨b, off, none⟩) 1 cap] 26 (0, 0)) := by rw [hW]; exact block_alloc_new w _
    have c0 : W.cell? ⟨w.heap.size, 0, none⟩ = some (In 2) := cell_of hblk rfl
    have c2 : W.cell? ⟨w.heap.size, 2, none⟩ = some (.slice (some ⟨b, off, none⟩) 1 cap) := cell_of hblk rfl
    have hB : Below w.heap.size w W := by rw [hW]; exact (Below.refl _ w).alloc (Nat.le_refl _) _
    have q0 := (hB.cell (World.block_lt_of_cell? w _ r0)).trans r0
    have q1 := (hB.cell (World.block_lt_of_cell? w _ r1)).trans r1
    have q2 := (hB.cell (World.block_lt_of_cell? w _ r2)).trans r2
    have HB := Lib.hid hB
    clear hW hblk hB r0 r1 r2
    have hf1 : f.size < 1000000000000 := by simp only [Fms.size] at hsz; omega
    go_wp2_with fail
    refine (HIH.out _ W hm1 hf1 (HS1.out.later HB.out)).mono ?_
    rintro e w1 ⟨rfl, hb1⟩
    have hB1 := Lib.hid (HB.out.trans (hb1.mono HB.out.size))
    clear hb1
    have hov : ¬ 9223372036854775807 < 1 + (txt o l f).length := by have := txt_len hm1; omega
    go_wp2
    go_ret
    refine ⟨?_, hB1.out⟩
    show Ending.returned (.string (⟨[33].toArray⟩ ++ ⟨(txt o l f).toArray⟩)) = _
    rw [bapp]
    simp [txt, txt1, txts]
  · obtain ⟨b, off, e, ⟨s1, r0, r1, r2, hs1⟩, ⟨s2, r3, r4, r5, hs2⟩, _⟩ := hs.at (i := 0) (by simp [Fms.len])
    subst e
    have hs1' : SlIs w s1 f := hs1
    have hs2' : SlIs w s2 f' := hs2
    obtain ⟨p1, cap1, rfl⟩ := hs1'.slice
    obtain ⟨p2, cap2, rfl⟩ := hs2'.slice
    have HIH := Lib.hid IH.1
    have HIH2 := Lib.hid IH.2.1
    clear hs IH hs1 hs2
    change Calls Tryd.prog 22 #[.agg #[.int .i64 op, .int .i64 la, .slice (some ⟨b, off, none⟩) 2 cap]] w _
    have HS1 := Lib.hid hs1'
    have HS2 := Lib.hid hs2'
    clear hs1' hs2'
    have hf1 : f.size < 1000000000000 := by simp only [Fms.size] at hsz; omega
    have hf2 : f'.size < 1000000000000 := by simp only [Fms.size] at hsz; omega
    have hl1 := txt_len hm1
    have hl2 := txt_len hm2
    have hfs : f.size + f'.size < 1000000000000 := by simp only [Fms.size] at hsz; omega
    have hop : op = 3 ∨ op = 4 ∨ op = 5 ∨ op = 6 := by omega
    clear h3 h6
    have g1 : (op == 1) = false := by rcases hop with rfl | rfl | rfl | rfl <;> rfl
    have g2 : (op == 2) = false := by rcases hop with rfl | rfl | rfl | rfl <;> rfl
    obtain ⟨W, hW⟩ : ∃ W, W = w.alloc (.cells #[.int .i64 op, .int .i64 la, .slice (some ⟨b, off, none⟩) 2 cap] 26) := ⟨_, rfl⟩
    have hblk : W.heap[w.heap.size]? = some (.cells #[.int .i64 op, .int .i64 la, .slice (some ⟨b, off, none⟩) 2 cap] 26 (0, 0)) := by rw [hW]; exact block_alloc_new w _
    have hB : Below w.heap.size w W := by rw [hW]; exact (Below.refl _ w).alloc (Nat.le_refl _) _
    have HBK := Lib.hid hblk
    have HB := Lib.hid hB
    clear hblk hB
    go_enter Tryd.func22, Tryd.ntmps22
    go_upto_region 1 with fail
    rw [← hW]
    have d0 : W.cell? ⟨w.heap.size, 0, none⟩ = some (In op) := cell_of HBK.out rfl
    go_upto_region 6 with fail
    go_cut [3] (fun s3 wx => s3 = str [sgn op] ∧ Hid (wx.heap[w.heap.size]? = some (.cells #[.int .i64 op, .int .i64 la, .slice (some ⟨b, off, none⟩) 2 cap] 26 (0, 0))) ∧ Hid (Below w.heap.size w wx))
    case first =>
      rcases hop with rfl | rfl | rfl | rfl
      all_goals
        go_wp2_with fail
        go_meet
        rw [← hW]
        exact ⟨rfl, Lib.hid (block_alloc_old _ HBK.out), Lib.hid (HB.out.alloc HB.out.size _)⟩
    case rest =>
      obtain ⟨rfl, HBL, HBC⟩ := hcut
      have hblk := HBL.out
      have hB := HBC.out
      have c2 := fun x : Ext wc => Ext.cell (show wc.cell? ⟨w.heap.size, 2, none⟩ = some (.slice (some ⟨b, off, none⟩) 2 cap) from cell_of hblk rfl) x
      have q0 := fun x : Ext wc => Ext.cell ((hB.cell (World.block_lt_of_cell? w _ r0)).trans r0) x
      have q1 := fun x : Ext wc => Ext.cell ((hB.cell (World.block_lt_of_cell? w _ r1)).trans r1) x
      have q2 := fun x : Ext wc => Ext.cell ((hB.cell (World.block_lt_of_cell? w _ r2)).trans r2) x
      have q3 := fun x : Ext wc => Ext.cell ((hB.cell (World.block_lt_of_cell? w _ r3)).trans r3) x
      have q4 := fun x : Ext wc => Ext.cell ((hB.cell (World.block_lt_of_cell? w _ r4)).trans r4) x
      have q5 := fun x : Ext wc => Ext.cell ((hB.cell (World.block_lt_of_cell? w _ r5)).trans r5) x
      have K1 : Hid (∀ x : Ext wc, Calls Tryd.prog 22 #[.agg #[.int .i64 o, .int .i64 l, .slice p1 f.len cap1]] x.w fun e w' => e = .returned (str (txt o l f)) ∧ ∃ y : Ext wc, w' = y.w) :=
        Lib.hid fun x => x.calls (HIH.out _ _ hm1 hf1 ((HS1.out.later hB).later x.b))
      have K2 : Hid (∀ x : Ext wc, Calls Tryd.prog 22 #[.agg #[.int .i64 o', .int .i64 l', .slice p2 f'.len cap2]] x.w fun e w' => e = .returned (str (txt o' l' f')) ∧ ∃ y : Ext wc, w' = y.w) :=
        Lib.hid fun x => x.calls (HIH2.out _ _ hm2 hf2 ((HS2.out.later hB).later x.b))
      clear hblk hB r0 r1 r2 r3 r4 r5 HIH HIH2 HS1 HS2 HBK
      have ov1 : ¬ 9223372036854775807 < 1 + (txt o l f).length := by omega
      have ov2 : ¬ 9223372036854775807 < 1 + (txt o l f).length + 1 := by omega
      have ov3 : ¬ 9223372036854775807 < 1 + (txt o l f).length + 1 + (txt o' l' f').length := by omega
      have ov4 : ¬ 9223372036854775807 < 1 + (txt o l f).length + 1 + (txt o' l' f').length + 1 := by omega
      go_upto_region 7 with fail
      refine wp_region_quiet_tail (fun X => ∃ x : Ext wc, X = x.w) 15 (by kernel_rfl) (by kernel_rfl) ⟨Ext.drew wc, rfl⟩ ?_
      simp only [List.take_succ_cons, List.take_zero, List.drop_succ_cons, List.drop_zero]
      repeat (go_big_quiet_step (first | (go_at_call_of 22 (Value.slice p1 f.len cap1); exact K1.out _) | (go_at_call_of 22 (Value.slice p2 f'.len cap2); exact K2.out _)))
      refine wpQuiet_nil ?_
      rintro _ ⟨x, rfl⟩
      have hx := HBC.out.trans (x.b.mono HBC.out.size)
      go_wp2
      go_ret
      refine ⟨?_, hx⟩
      have n1 : ¬ op = 1 := by rcases hop with rfl | rfl | rfl | rfl <;> decide
      have n2 : ¬ op = 2 := by rcases hop with rfl | rfl | rfl | rfl <;> decide
      show Ending.returned (.string (⟨[40].toArray⟩ ++ ⟨(txt o l f).toArray⟩ ++ ⟨[sgn op].toArray⟩ ++ ⟨(txt o' l' f').toArray⟩ ++ ⟨[41].toArray⟩)) = _
      rw [bapp, bapp, bapp, bapp]
      simp [txt, txt1, txts, n1, n2]

theorem rtext_any (op la : Int) (of : Fms) : RTextOk op la of := rtext_step op la of (Fms.all_of rtext_step of)
#print axioms rtext_any
end Go.Proofs.YthbkdbnalkeieaaDoor
