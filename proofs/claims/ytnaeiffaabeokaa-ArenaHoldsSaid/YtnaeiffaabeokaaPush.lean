/- The walk of the heap's push. -/
import Derived.Test.YtnaeiffaabeokaaApp
import Derived.Deep.LoopGhost
import Derived.Deep.QuietTactic
import Derived.StillTailTactics
import Derived.BigRegion
import Derived.BigQuiet
import Derived.Lib.Hide
namespace Go.Proofs.Ytnaeiffaabeokaa
open Go.RowKit Go.Sort

theorem Try.info3 : (Try.prog.info? 3).map (fun i => (i.zero, i.size, i.bytes)) = some (some (.int .i64 0), 1, 8) := by kernel_rfl

theorem up_stop {f i : Nat} {d : Array Int} (h : ¬ (0 < i ∧ d[i]! < d[(i - 1) / 2]!)) : Hp.up f i d = d := by
  cases f with
  | zero => rfl
  | succ f => simp only [Hp.up]; rw [if_neg h]
theorem up_go {f i : Nat} {d : Array Int} (h : 0 < i ∧ d[i]! < d[(i - 1) / 2]!) (hf : i ≤ f) : Hp.up f i d = Hp.up (f - 1) ((i - 1) / 2) (swp d i ((i - 1) / 2)) := by
  obtain ⟨g, rfl⟩ : ∃ g, f = g + 1 := ⟨f - 1, by omega⟩
  simp only [Hp.up, Nat.add_sub_cancel]
  rw [if_pos h]

def Done (W1 : World) (b : Nat) (d : Array Int) (e : Ending) (w' : World) : Prop := e = .returned (.tuple #[]) ∧ ∃ q, w' = (putRow (Value.int .i64) W1 b 0 d).drewN q

set_option maxHeartbeats 4000000 in
set_option maxRecDepth 100000 in
theorem push_walk (h : Nat) (g : Option Nat) (d : Array Int) (x : Int) (w : World) (H : IsHeap w h g d) (hlen : d.size < 1048576) :
    Calls Try.prog 22 #[.pointer (some ⟨h, 0, none⟩), .int .i64 x] w fun e w' => 
      ∃ W1 b cap, IsHeap W1 h (some b) (d.push x) ∧ W1.heap[h]? = some (.cells #[.slice (some ⟨b, 0, none⟩) (d.size + 1) cap] 42 (0, 0)) ∧ Chg (fun k => k = h ∨ g = some k) w W1 ∧ (g = some b ∨ w.heap.size ≤ b) ∧ Done W1 b (Hp.push d x) e w' := by
  have hne := H.ne
  have hlt := H.lt
  obtain ⟨v, hh, ho, hg⟩ := H
  have hc := cell_of_one hh
  have hf := free_of_one hh
  obtain ⟨i0, hi, hz0, hz1, hz2⟩ := info_parts Try.info3
  go_enter Try.func22, Try.ntmps22
  go_wp2_with (at_builtin; refine wpList_append_or _ rfl _ _ 40 rfl 3 i0 (.int .i64 0) 1 8 Try.underlying40 hi hz0 hz1 hz2 rfl (by decide) _ _ _ rfl (ho.alloc _) ⟨w.heap.size, 0, none⟩ 1 1 [.int .i64 x] rfl rfl (cell_one_new _ _ _) ?c2 ?c3 ?c4 ?c5 ?_)
  case c2 => intro u hu; simp at hu; subst hu; rfl
  case c3 => unfold maxLen; omega
  case c4 => omega
  case c5 => omega
  intro v' w1 hown hgrow hnew
  have G1 : Chg (fun k => k = h ∨ g = some k) w w1 := ((Chg.refl _ w).alloc _).grown hgrow (fun k e _ => .inr (by first | exact e | (rw [← hg]; exact e)))
  have hh1 : w1.heap[h]? = some (.cells #[v] 42 (0, 0)) := (hgrow.block h (by have := lt_of_block hh; simp; omega) (by intro e; exact hne e.symm)).trans (block_alloc_old _ hh)
  obtain ⟨b, cap, rfl⟩ := ownsRow_succ hown
  have hnb : g = some b ∨ w.heap.size ≤ b := by
    rcases hnew with e | e
    · exact .inl e.symm
    · exact .inr (by have := e b rfl; first | omega | (simp at this; omega))
  have hbh : b ≠ h := by
    rintro rfl
    rcases hnb with e | e
    · exact hne e
    · have := hlt.1; omega
  have hc1 := cell_of_one hh1
  have hf1 := free_of_one hh1
  clear hnew hgrow hc hf
  go_wp2
  obtain ⟨W1, hW1⟩ : ∃ W1, W1 = w1.setCell ⟨h, 0, none⟩ (Value.slice (some ⟨b, 0, none⟩) (d.size + 1) cap) := ⟨_, rfl⟩
  have hB1 : W1.heap[h]? = some (.cells #[.slice (some ⟨b, 0, none⟩) (d.size + 1) cap] 42 (0, 0)) := by rw [hW1]; exact one_setCell hh1
  have hown1 : W1.ownsRow 0 3 1 (.slice (some ⟨b, 0, none⟩) (d.size + 1) cap) (d.size + 1) ((d.push x).toList.map In) := by
    rw [hW1]
    refine ownsRow_setCell_other ?_ (by simp [Value.ownBlock]; exact hbh) _
    simpa using hown
  have G2 : Chg (fun k => k = h ∨ g = some k) w W1 := by rw [hW1]; exact G1.setCell (fun _ => .inl rfl) _
  have hfld : W1.cell? ⟨h, 0, none⟩ = some (.slice (some ⟨b, 0, none⟩) (d.size + 1) cap) := cell_of_one hB1
  have hH : Holds (Value.int .i64) W1 b 0 (d.push x) := by
    have := holds_of (d := d.push x) (b := b) (cap := cap) (w := W1) (by simpa using hown1)
    exact this
  rw [← hW1]
  clear hW1 hown hc1 hf1 hh1 G1
  have hsz : (d.push x).size = d.size + 1 := by simp
  have HF : Aside (W1.ownsRow 0 3 1 (.slice (some ⟨b, 0, none⟩) (d.size + 1) cap) (d.size + 1) ((d.push x).toList.map In)) := hown1
  have HB : Aside (W1.heap[h]? = some (.cells #[.slice (some ⟨b, 0, none⟩) (d.size + 1) cap] 42 (0, 0))) := hB1
  clear hown1 hB1 hh ho hi hz0 hz1 hz2
  go_loopg [4] (d.size + 1) (fun g si wr => ∃ (i f q : Nat) (dk : Array Int), si = .int .i64 i ∧ dk.size = d.size + 1 ∧ i ≤ d.size ∧ i ≤ f ∧ i + 1 ≤ g ∧ wr = (putRow (Value.int .i64) W1 b 0 dk).drewN q ∧ Hid (Hp.push d x = Hp.up f i dk))
  case atStart => exact ⟨d.size, d.size, 0, d.push x, rfl, by simp, by omega, by omega, by omega, by rw [putRow_self (Value.int .i64) _ b 0 _ hH]; rfl, rfl⟩
  case round =>
    obtain ⟨i, f, q, dk, rfl, hds, hid, hif, hgk, rfl, HE⟩ := hrel
    have hHk : Holds (Value.int .i64) (putRow (Value.int .i64) W1 b 0 dk) b 0 dk := holds_putRow _ _ b 0 (d.push x) dk hH (by rw [hds, hsz])
    have hfldk : (putRow (Value.int .i64) W1 b 0 dk).cell? ⟨h, 0, none⟩ = some (.slice (some ⟨b, 0, none⟩) (d.size + 1) cap) := by
      rw [cell?_putRow_other _ _ b 0 dk ⟨h, 0, none⟩ (by left; exact fun e => hbh e.symm)]
      exact hfld
    clear hH hfld
    have hds' : Hid (dk.size = d.size + 1) := hds
    cases i with
    | zero =>
      have g0 : decide ((0 : Int) < 0) = false := rfl
      go_wp2_with fail
      go_quiet (fail)
      go_wp2
      go_end0
      refine ⟨W1, b, cap, ⟨_, HB.out, by simpa using HF.out, rfl⟩, HB.out, G2, hnb, rfl, q + nq, by rw [HE.out, up_stop (by omega), World.drewN_drewN]⟩
    | succ i =>
      have hpar : (i + 1 - 1) / 2 = i / 2 := by omega
      have hpi : i / 2 < dk.size := by rw [hds]; omega
      have hii : i + 1 < dk.size := by rw [hds]; omega
      obtain ⟨xi, hxi⟩ : ∃ y, dk[i + 1]! = y := ⟨_, rfl⟩
      obtain ⟨ci, fi⟩ := hHk (i + 1) hii
      rw [hxi] at ci
      obtain ⟨xp, hxp⟩ : ∃ y, dk[i / 2]! = y := ⟨_, rfl⟩
      obtain ⟨cp, fp⟩ := hHk (i / 2) hpi
      rw [hxp] at cp
      have Hxi := Lib.hid hxi
      have Hxp := Lib.hid hxp
      have Hpar := Lib.hid hpar
      have Hds := Lib.hid hds
      clear hHk hxi hxp hpar hds hpi hii
      simp only [Nat.zero_add] at ci fi cp fp
      have i1 : (i : Int) / 2 < (d.size : Int) + 1 := by omega
      have i2 : (0 : Int) ≤ (i : Int) / 2 := by omega
      have i3 : (i : Int) + 1 < (d.size : Int) + 1 := by omega
      by_cases t : xi < xp
      · go_wp2_with fail
        go_quiet (fail)
        go_wp2_with fail
        generalize hwq : ((putRow (Value.int .i64) W1 b 0 dk).drewN q).drewN nq = wq
        have hfld' : wq.cell? ⟨h, 0, none⟩ = some (.slice (some ⟨b, 0, none⟩) (d.size + 1) cap) := by rw [← hwq]; exact hfldk
        have ci' : wq.cell? ⟨b, i + 1, none⟩ = some (.int .i64 xi) := by rw [← hwq]; exact ci
        have cp' : wq.cell? ⟨b, i / 2, none⟩ = some (.int .i64 xp) := by rw [← hwq]; exact cp
        have fi' : wq.frozen? ⟨b, i + 1, none⟩ = false := by rw [← hwq]; exact fi
        have fp' : wq.frozen? ⟨b, i / 2, none⟩ = false := by rw [← hwq]; exact fp
        have Hwq := Lib.hid hwq
        clear hwq ci cp fi fp hfldk
        go_region
        go_wp2
        go_roundg (i / 2 + 1)
        case measure => omega
        case rel =>
          refine ⟨i / 2, f - 1, q + nq + 1, swp dk (i + 1) (i / 2), by go_num, by simp [swp, Hds.out], by omega, by omega, Nat.le_refl _, ?_, (show Hid _ from HE.out.trans ?_)⟩
          · rw [← Hwq.out, ← Hxi.out, ← Hxp.out, World.drewN_drewN]
            have := swap_worldC (Value.int .i64) W1 b 0 dk (q + nq) (i + 1) (i / 2) (by have := Hds.out; omega) (by have := Hds.out; omega)
            simpa using this
          · have := up_go (f := f) (i := i + 1) (d := dk) (by rw [Hpar.out, Hxi.out, Hxp.out]; omega) (by omega)
            rw [Hpar.out] at this
            exact this
      · go_wp2_with fail
        go_quiet (fail)
        go_wp2
        go_end0
        refine ⟨W1, b, cap, ⟨_, HB.out, by simpa using HF.out, rfl⟩, HB.out, G2, hnb, rfl, q + nq, by rw [HE.out, up_stop (by rw [Hpar.out, Hxi.out, Hxp.out]; omega), World.drewN_drewN]⟩
end Go.Proofs.Ytnaeiffaabeokaa
