/- Steps in memory of their own. -/
import Derived.Test.YticconhcphocbaaGreatDoorJ15
namespace Go.Proofs.YticconhcphocbaaGreatDoor
open Go.RowKit Go.Sort Go.Shelf

set_option maxHeartbeats 4000000 in
set_option maxRecDepth 100000 in
theorem owns_any {Z : Nat → Prop} (s : Value) (L : List (Bool × Int)) (w : World) (hs : Stp Z w s L) (hL : L.length ≤ 1000) :
    Calls Tryz.prog 62 #[s] w fun e w' => (∃ v, e = .returned v ∧ Stp (fun k => w.heap.size ≤ k ∧ k < w'.heap.size) w' v L) ∧ Below w.heap.size w w' := by
  obtain ⟨p, cap, rfl⟩ := Rw.slice hs
  have HS := Lib.hid hs
  obtain ⟨i0, hi0, hz0, hz1, hz2⟩ := info_parts Tryz.info40
  clear hs
  go_enter Tryz.func62, Tryz.ntmps62
  go_wp2_with fail
  go_loopg [3, 8] (L.length + 1) (fun gg s3 s8 wr => ∃ i : Nat, s8 = .int .i64 i ∧ i ≤ L.length ∧ L.length + 1 ≤ gg + i ∧ Hid (wr.ownsRow w.heap.size 40 9 s3 i (svs (L.take i))) ∧ Hid (Below w.heap.size w wr))
  case atStart => exact ⟨0, rfl, Nat.zero_le _, by omega, Lib.hid ⟨rfl, .inl ⟨rfl, rfl⟩⟩, Lib.hid (Below.refl _ _)⟩
  case round =>
    obtain ⟨i, rfl, hi, hgg, HOr, HBr⟩ := hrel
    by_cases hlt : i < L.length
    · have hrow := Rw.later HS.out HBr.out
      obtain ⟨b, off, c, e, hc, hzb, _⟩ := Rw.at_ hrow hlt
      obtain ⟨rfl, rfl⟩ : p = some ⟨b, off, none⟩ ∧ cap = c := by cases e; exact ⟨rfl, rfl⟩
      obtain ⟨q0, q1, q2, q3, q4, q5, q6, q7, q8⟩ := Stp.cells hrow hlt
      have hi' : (i : Int) < L.length := by omega
      clear e hc hzb hrow
      have HOW := Lib.hid (fun X => (show Calls Tryz.prog 30 #[.agg #[.bool L[i].1, Ii L[i].2, Ii 0, .bool true, Ii L[i].2, Ii 0, Ii L[i].2, Ii 1, .slice none 0 0]] X fun e w' => e = .returned (.agg #[.bool L[i].1, Ii L[i].2, Ii 0, .bool true, Ii L[i].2, Ii 0, Ii L[i].2, Ii 1, .slice none 0 0]) ∧ Below X.heap.size X w' from own_any L[i] X))
      go_wp2_with fail
      clear q0 q1 q2 q3 q4 q5 q6 q7 q8
      refine (HOW.out _).mono ?_
      rintro e w2 ⟨rfl, hb2⟩
      have hba := ((Below.refl _ wr).alloc (Nat.le_refl _) (.cells #[.bool L[i].1, Ii L[i].2, Ii 0, .bool true, Ii L[i].2, Ii 0, Ii L[i].2, Ii 1, .slice none 0 0] 40)).trans (hb2.mono (by rw [World.size_alloc]; omega))
      obtain ⟨W3, hW3⟩ : ∃ W, W = w2.alloc (.cells #[.bool L[i].1, Ii L[i].2, Ii 0, .bool true, Ii L[i].2, Ii 0, Ii L[i].2, Ii 1, .slice none 0 0] 40) := ⟨_, rfl⟩
      have hb23 : Below w2.heap.size w2 W3 := by rw [hW3]; exact (Below.refl _ _).alloc (Nat.le_refl _) _
      have hnw : ∀ j u, ([.bool L[i].1, Ii L[i].2, Ii 0, .bool true, Ii L[i].2, Ii 0, Ii L[i].2, Ii 1, .slice none 0 0] : List Value)[j]? = some u → W3.cell? ((⟨w2.heap.size, 0, none⟩ : Addr).add j) = some u := by rw [hW3]; exact cells_new w2 [.bool L[i].1, Ii L[i].2, Ii 0, .bool true, Ii L[i].2, Ii 0, Ii L[i].2, Ii 1, .slice none 0 0] 40
      have hb3 : Below wr.heap.size wr W3 := hba.trans (hb23.mono hba.size)
      have ho3 := ownsRow_below HOr.out hb3
      have HB3 := Lib.hid (HBr.out.trans (hb3.mono HBr.out.size))
      have HLT := Lib.hid hlt
      clear hba hb23 hb3 hb2 HOr HBr HOW
      go_wp2_with (first | rw [← hW3] | (at_builtin; refine wpList_append_own W3 rfl _ _ 46 rfl w.heap.size 40 i0 _ 9 88 Tryz.underlying46 hi0 hz0 hz1 hz2 rfl (by decide) _ i (svs (L.take i)) rfl ho3 ⟨w2.heap.size, 0, none⟩ 1 1 [.bool L[i].1, Ii L[i].2, Ii 0, .bool true, Ii L[i].2, Ii 0, Ii L[i].2, Ii 1, .slice none 0 0] rfl rfl hnw ?ea ?eb ?ec ?ee ?ed))
      case ea => exact svs_one [L[i]]
      case eb => unfold maxLen; omega
      case ec => omega
      case ee => exact HB3.out.size
      case ed =>
        intro v4 w4 ho4 hgr4 _
        have hlo : ∀ k, u3.ownBlock = some k → w.heap.size ≤ k := fun k hk => (ownsRow_lo ho3 hk).1
        have HB4 := Lib.hid (HB3.out.grown hgr4 HB3.out.size hlo)
        have HO4 := Lib.hid ho4
        clear ho4 hgr4 hlo ho3 hnw hW3
        go_wp2_with fail
        go_roundg (L.length - i)
        case measure => omega
        case rel =>
          refine ⟨i + 1, by simp, by omega, by omega, Lib.hid ?_, HB4⟩
          have := HO4.out
          rw [← take_snoc L i HLT.out, svs_append]
          exact this
    · obtain rfl : i = L.length := by omega
      have ho := HOr.out
      rw [List.take_length] at ho
      have HO := Lib.hid ho
      clear ho HOr
      go_wp2_with fail
      exact bodyPost_ret (v := u3) (by simp [results, Tryz.results62, go_sem]) rfl ⟨⟨u3, rfl, Rw.of_own HO.out (by decide)⟩, HBr.out⟩
end Go.Proofs.YticconhcphocbaaGreatDoor
