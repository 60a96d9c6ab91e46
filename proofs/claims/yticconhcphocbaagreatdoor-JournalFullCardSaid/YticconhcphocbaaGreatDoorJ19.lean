/- Undo, Redo. -/
import Derived.Test.YticconhcphocbaaGreatDoorJ18
namespace Go.Proofs.YticconhcphocbaaGreatDoor
open Go.RowKit Go.Sort Go.Shelf

theorem undo_empty (jb : Nat) (s : Value) (p : Option Addr) (c : Nat) (u : Value) (w : World) (h : JB w jb s false (.slice p 0 c) u true) :
    Calls Tryz.prog 19 #[.pointer (some ⟨jb, 0, none⟩)] w fun e w' => (∃ v, e = .returned (.tuple #[v, .int .i64 342])) ∧ Below w.heap.size w w' := by
  have HM := Lib.hid (back_empty jb s p c u w h)
  clear h
  go_enter Tryz.func19, Tryz.ntmps19
  go_wp2_with fail
  refine HM.out.mono ?_
  rintro e w1 ⟨rfl, hb1⟩
  have HB1 := Lib.hid hb1
  have HI := Lib.hid (inverse_any (.slice none 0 0) [] w1 (Rw.nil (fun _ => True) w1 9) (by simp))
  clear hb1
  go_wp2_with fail
  refine HI.out.mono ?_
  rintro e w2 ⟨⟨v, rfl, _⟩, hb2⟩
  have HB2 := Lib.hid (HB1.out.trans (hb2.mono HB1.out.size))
  clear hb2
  go_wp2
  go_ret2
  exact ⟨⟨v, rfl⟩, HB2.out⟩

theorem undo_ok {Z : Nat → Prop} (jb : Nat) (s d u : Value) (L : List (Bool × Int)) (G H : List (List (Bool × Int))) (w : World) (h : JB w jb s false d u true) (hd : Grp Z w d (G ++ [L])) (hu : Grp Z w u H) (hz : ¬ Z jb) (hG : G.length ≤ 100) (hH : H.length ≤ 100) (hL : L.length ≤ 1000) :
    Calls Tryz.prog 19 #[.pointer (some ⟨jb, 0, none⟩)] w fun e w' => (∃ v, e = .returned (.tuple #[v, .int .i64 0]) ∧ Stp (fun k => w.heap.size ≤ k ∧ k < w'.heap.size) w' v (L.reverse.map invS)) ∧
      (∃ d' u', JB w' jb s false d' u' true ∧ Grp (fun k => Z k ∨ (w.heap.size ≤ k ∧ k < w'.heap.size)) w' d' G ∧ Grp (fun k => Z k ∨ (w.heap.size ≤ k ∧ k < w'.heap.size)) w' u' (H ++ [L])) ∧ Chg (fun k => k = jb) w w' := by
  have HM := Lib.hid (back_ok jb s d u L G H w h hd hu hz hG hH hL)
  clear h hd hu
  go_enter Tryz.func19, Tryz.ntmps19
  go_wp2_with fail
  refine HM.out.mono ?_
  rintro e w1 ⟨⟨v1, rfl, hs1⟩, ⟨d', u', hj1, hd1, hu1⟩, hc1⟩
  have HI := Lib.hid (inverse_any v1 L w1 hs1 hL)
  have HJ := Lib.hid hj1
  have HD := Lib.hid hd1
  have HU := Lib.hid hu1
  have HC := Lib.hid hc1
  clear hs1 hj1 hd1 hu1 hc1 HM
  go_wp2_with fail
  refine HI.out.mono ?_
  rintro e w2 ⟨⟨v, rfl, hs2⟩, hb2⟩
  have HS := Lib.hid hs2
  have HB2 := Lib.hid hb2
  clear hs2 hb2 HI
  go_wp2
  go_ret2
  have h1 := HC.out.size
  have h2 := HB2.out.size
  have hC2 : Chg (fun _ => False) w1 w2 := Chg.of_below HB2.out
  have key : ∀ {v : Value} {K : List (List (Bool × Int))}, Grp (fun k => Z k ∨ (w.heap.size ≤ k ∧ k < w1.heap.size)) w1 v K → Grp (fun k => Z k ∨ (w.heap.size ≤ k ∧ k < w2.heap.size)) w2 v K := by
    rintro v K ⟨xs, hr, he⟩
    refine ⟨xs, (hr.keep hC2 (fun _ _ h => h)).mono (fun k hk => hk.imp id fun h => ⟨h.1, by omega⟩), fun i L hi => ?_⟩
    obtain ⟨y, hy, hsy⟩ := he i L hi
    exact ⟨y, hy, (Rw.keep hsy hC2 (fun _ _ h => h)).mono fun k hk => hk.imp id fun h => ⟨h.1, by omega⟩⟩
  exact ⟨⟨v, rfl, HS.out.mono fun k hk => ⟨by omega, hk.2⟩⟩, ⟨d', u', HJ.out.later HB2.out, key HD.out, key HU.out⟩, HC.out.trans (Chg.of_below HB2.out)⟩

theorem redo_ok {Z : Nat → Prop} (jb : Nat) (s d u : Value) (L : List (Bool × Int)) (G H : List (List (Bool × Int))) (w : World) (h : JB w jb s false u d true) (hd : Grp Z w d (G ++ [L])) (hu : Grp Z w u H) (hz : ¬ Z jb) (hG : G.length ≤ 100) (hH : H.length ≤ 100) (hL : L.length ≤ 1000) :
    Calls Tryz.prog 20 #[.pointer (some ⟨jb, 0, none⟩)] w fun e w' => (∃ v, e = .returned (.tuple #[v, .int .i64 0]) ∧ Stp (fun k => w.heap.size ≤ k ∧ k < w'.heap.size) w' v L) ∧
      (∃ d' u', JB w' jb s false u' d' true ∧ Grp (fun k => Z k ∨ (w.heap.size ≤ k ∧ k < w'.heap.size)) w' d' G ∧ Grp (fun k => Z k ∨ (w.heap.size ≤ k ∧ k < w'.heap.size)) w' u' (H ++ [L])) ∧ Chg (fun k => k = jb) w w' := by
  have HM := Lib.hid (fore_ok jb s d u L G H w h hd hu hz hG hH hL)
  clear h hd hu
  go_enter Tryz.func20, Tryz.ntmps20
  go_wp2_with fail
  refine HM.out.mono ?_
  rintro e w1 ⟨⟨v1, rfl, hs1⟩, ⟨d', u', hj1, hd1, hu1⟩, hc1⟩
  have H1 := Lib.hid hs1
  have H2 := Lib.hid hj1
  have H3 := Lib.hid hd1
  have H4 := Lib.hid hu1
  have H5 := Lib.hid hc1
  clear hs1 hj1 hd1 hu1 hc1 HM
  go_wp2
  go_ret2
  exact ⟨⟨v1, rfl, H1.out⟩, ⟨d', u', H2.out, H3.out, H4.out⟩, H5.out⟩
end Go.Proofs.YticconhcphocbaaGreatDoor
