/- The walk of the heap's sinking. -/
import Derived.Test.YtnaeiffaabeokaaHeap
import Derived.LoopN
namespace Go.Proofs.Ytnaeiffaabeokaa
open Go.RowKit Go.Sort

theorem down_stop {f i : Nat} {d : Array Int} (h : Hp.pick d i = i) : Hp.down f i d = d := by
  cases f with
  | zero => rfl
  | succ f => simp only [Hp.down]; rw [if_pos h]
theorem down_go {f i : Nat} {d : Array Int} (h : Hp.pick d i ≠ i) (hf : 0 < f) : Hp.down f i d = Hp.down (f - 1) (Hp.pick d i) (swp d i (Hp.pick d i)) := by
  obtain ⟨g, rfl⟩ : ∃ g, f = g + 1 := ⟨f - 1, by omega⟩
  simp only [Hp.down, Nat.add_sub_cancel]
  rw [if_neg h]

/-- The candidate after j looks. -/
def kAt (d : Array Int) (i : Nat) : Nat → Nat
  | 0 => i
  | 1 => Hp.pick1 d i
  | _ => Hp.pick d i
theorem kAt_step (d : Array Int) (i j : Nat) (hj : j < 2) : kAt d i (j + 1) = if 2 * i + 1 + j < d.size ∧ d[2 * i + 1 + j]! < d[kAt d i j]! then 2 * i + 1 + j else kAt d i j := by
  match j, hj with
  | 0, _ => rfl
  | 1, _ => rfl
theorem kAt_lt (d : Array Int) (i j : Nat) (hi : i < d.size) : kAt d i j < d.size := by
  match j with
  | 0 => exact hi
  | 1 => exact Hp.pick1_lt d i hi
  | _ + 2 => exact Hp.pick_lt d i hi

theorem pick_in (d : Array Int) (h : Hp.pick d 0 ≠ 0) : Hp.pick d 0 < d.size := by
  rcases Nat.eq_zero_or_pos d.size with h0 | h0
  · exfalso
    apply h
    unfold Hp.pick Hp.pick1
    rw [if_neg (by omega), if_neg (by omega)]
  · exact Hp.pick_lt d 0 h0

theorem index2 (x0 x1 : Int) (w : World) : (Instr.index 65 (.agg #[.int .i64 x0, .int .i64 x1]) (.int .i64 0)).run Try.prog w = .ok (.int .i64 x0) w := by kernel_rfl
theorem index2b (x0 x1 : Int) (w : World) : (Instr.index 65 (.agg #[.int .i64 x0, .int .i64 x1]) (.int .i64 1)).run Try.prog w = .ok (.int .i64 x1) w := by kernel_rfl

set_option maxHeartbeats 4000000 in
set_option maxRecDepth 100000 in
theorem down_walk (h b cap : Nat) (d : Array Int) (W1 : World) (hfld : W1.cell? ⟨h, 0, none⟩ = some (.slice (some ⟨b, 0, none⟩) d.size cap)) (hbh : b ≠ h)
    (hH : Holds (Value.int .i64) W1 b 0 d) (hlen : d.size < 1048577) :
    Calls Try.prog 27 #[.pointer (some ⟨h, 0, none⟩), .int .i64 0] W1 fun e w' => Done W1 b (Hp.down d.size 0 d) e w' := by
  go_enter Try.func27, Try.ntmps27
  go_wp2
  go_loopg [1] (d.size + 1) (fun g si wr => ∃ (i f q : Nat) (dk : Array Int), si = .int .i64 i ∧ dk.size = d.size ∧ (i = 0 ∨ i < d.size) ∧ d.size ≤ f + i ∧ d.size + 1 ≤ g + i ∧ wr = (putRow (Value.int .i64) W1 b 0 dk).drewN q ∧ Hid (Hp.down d.size 0 d = Hp.down f i dk))
  case atStart => exact ⟨0, d.size, 0, d, rfl, rfl, by omega, by omega, by omega, by rw [putRow_self (Value.int .i64) _ b 0 _ hH]; rfl, rfl⟩
  case round =>
    obtain ⟨i, f, q, dk, rfl, hds, hid, hif, hgk, rfl, HE⟩ := hrel
    have hHk : Holds (Value.int .i64) (putRow (Value.int .i64) W1 b 0 dk) b 0 dk := holds_putRow _ _ b 0 d dk hH hds
    have hfldk : (putRow (Value.int .i64) W1 b 0 dk).cell? ⟨h, 0, none⟩ = some (.slice (some ⟨b, 0, none⟩) d.size cap) := by
      rw [cell?_putRow_other _ _ b 0 dk ⟨h, 0, none⟩ (by left; exact fun e => hbh e.symm)]
      exact hfld
    clear hH hfld
    have Hds := Lib.hid hds
    clear hds
    have ilt : i < 1048577 := by omega
    go_wp2
    go_loopg [4, 15] 2 (fun g sk sj wr => ∃ (j q2 : Nat), sj = .int .i64 j ∧ sk = .int .i64 (kAt dk i j) ∧ j + g = 2 ∧ wr = (putRow (Value.int .i64) W1 b 0 dk).drewN q2)
    case atStart => exact ⟨0, q, rfl, rfl, rfl, rfl⟩
    case round =>
      obtain ⟨j, q2, rfl, rfl, hj, rfl⟩ := hrel
      by_cases hj2 : j < 2
      · obtain ⟨c, hc⟩ : ∃ c, c = 2 * i + 1 + j := ⟨_, rfl⟩
        have hix : ∀ w, (Instr.index 65 (.agg #[.int .i64 (2 * (i : Int) + 1), .int .i64 (2 * (i : Int) + 2)]) (.int .i64 (j : Int))).run Try.prog w = .ok (.int .i64 (c : Int)) w := by
          intro w
          subst hc
          match j, hj2 with
          | 0, _ => have := index2 (2 * (i : Int) + 1) (2 * (i : Int) + 2) w; simpa using this
          | 1, _ => have := index2b (2 * (i : Int) + 1) (2 * (i : Int) + 2) w; simpa [Int.add_assoc] using this
        have hst := kAt_step dk i j hj2
        rw [← hc, Hds.out] at hst
        have Hst := Lib.hid hst
        obtain ⟨k, hk⟩ : ∃ k, kAt dk i j = k := ⟨_, rfl⟩
        have hkl : i < dk.size → k < dk.size := fun hh => hk ▸ kAt_lt dk i j hh
        rw [Hds.out] at hkl
        rw [hk]
        have Hk := Lib.hid hk
        have Hc := Lib.hid hc
        have hci : i < c := by omega
        have hcb : c < 4194304 := by omega
        clear hst hk hc
        by_cases c1 : c < d.size
        · have hkl := hkl (by omega)
          obtain ⟨xc, hxc⟩ : ∃ y, dk[c]! = y := ⟨_, rfl⟩
          obtain ⟨cc, fc⟩ := hHk c (by rw [Hds.out]; exact c1)
          rw [hxc] at cc
          obtain ⟨xk, hxk⟩ : ∃ y, dk[k]! = y := ⟨_, rfl⟩
          obtain ⟨ck, fk⟩ := hHk k (by rw [Hds.out]; exact hkl)
          rw [hxk] at ck
          have Hxc := Lib.hid hxc
          have Hxk := Lib.hid hxk
          simp only [Nat.zero_add] at cc ck fc fk
          clear hxc hxk hHk
          have c1' : (c : Int) < (d.size : Int) := by omega
          have k1' : (k : Int) < (d.size : Int) := by omega
          by_cases t : xc < xk
          · go_wp2_with fail
            go_quiet (fail)
            go_wp2
            go_roundg (2 - (j + 1))
            case measure => omega
            case rel => exact ⟨j + 1, q2 + nq, by go_num, by rw [Hst.out, Hk.out, if_pos ⟨c1, by rw [Hxc.out, Hxk.out]; exact t⟩], by omega, rfl⟩
          · go_wp2_with fail
            go_quiet (fail)
            go_wp2
            go_roundg (2 - (j + 1))
            case measure => omega
            case rel => exact ⟨j + 1, q2 + nq, by go_num, by rw [Hst.out, Hk.out, if_neg (fun hh => by have := hh.2; rw [Hxc.out, Hxk.out] at this; omega)], by omega, rfl⟩
        · have c1' : decide ((c : Int) < (d.size : Int)) = false := decide_eq_false (by omega)
          go_wp2_with fail
          go_quiet (fail)
          go_wp2
          go_roundg (2 - (j + 1))
          case measure => omega
          case rel => exact ⟨j + 1, q2 + nq, by go_num, by rw [Hst.out, Hk.out, if_neg (fun hh => c1 hh.1)], by omega, rfl⟩
      · obtain rfl : j = 2 := by omega
        obtain ⟨k, hk⟩ : ∃ k, Hp.pick dk i = k := ⟨_, rfl⟩
        have hk2 : kAt dk i 2 = k := hk
        rw [hk2]
        have Hk := Lib.hid hk
        clear hk hk2
        by_cases hki : k = i
        · subst hki
          have e1 : ((k : Int) == (k : Int)) = true := by simp
          go_wp2
          go_end0
          exact ⟨rfl, q2, by rw [HE.out, down_stop Hk.out]⟩
        · have hki' : ((k : Int) == (i : Int)) = false := by simp; omega
          have hle : i ≤ k := by have := Hp.pick_ge dk i; rw [Hk.out] at this; exact this
          have hkd : k < d.size := by
            rcases hid with h0 | h0
            · subst h0
              have h3 := Hk.out
              rw [← Hds.out, ← h3]
              exact pick_in dk (by rw [h3]; exact hki)
            · have := Hp.pick_lt dk i (by rw [Hds.out]; exact h0); rw [Hk.out, Hds.out] at this; exact this
          have k1' : (k : Int) < (d.size : Int) := by omega
          have i1' : (i : Int) < (d.size : Int) := by omega
          obtain ⟨xi, hxi⟩ : ∃ y, dk[i]! = y := ⟨_, rfl⟩
          obtain ⟨ci, fi⟩ := hHk i (by rw [Hds.out]; omega)
          rw [hxi] at ci
          obtain ⟨xk, hxk⟩ : ∃ y, dk[k]! = y := ⟨_, rfl⟩
          obtain ⟨ck, fk⟩ := hHk k (by rw [Hds.out]; exact hkd)
          rw [hxk] at ck
          have Hxi := Lib.hid hxi
          have Hxk := Lib.hid hxk
          simp only [Nat.zero_add] at ci ck fi fk
          clear hxi hxk hHk
          go_wp2_with fail
          generalize hwq : (putRow (Value.int .i64) W1 b 0 dk).drewN q2 = wq
          have hfld' : wq.cell? ⟨h, 0, none⟩ = some (.slice (some ⟨b, 0, none⟩) d.size cap) := by rw [← hwq]; exact hfldk
          have ci' : wq.cell? ⟨b, i, none⟩ = some (.int .i64 xi) := by rw [← hwq]; exact ci
          have ck' : wq.cell? ⟨b, k, none⟩ = some (.int .i64 xk) := by rw [← hwq]; exact ck
          have fi' : wq.frozen? ⟨b, i, none⟩ = false := by rw [← hwq]; exact fi
          have fk' : wq.frozen? ⟨b, k, none⟩ = false := by rw [← hwq]; exact fk
          have Hwq := Lib.hid hwq
          clear hwq ci ck fi fk hfldk
          go_region
          go_wp2
          go_roundg (d.size + 1 - k)
          case measure => omega
          case rel =>
            refine ⟨k, f - 1, q2 + 1, swp dk i k, by go_num, by simp [swp, Hds.out], by omega, by omega, by omega, ?_, (show Hid _ from HE.out.trans ?_)⟩
            · rw [← Hwq.out, ← Hxi.out, ← Hxk.out]
              have := swap_worldC (Value.int .i64) W1 b 0 dk q2 i k (by rw [Hds.out]; omega) (by rw [Hds.out]; omega)
              simpa using this
            · have := down_go (f := f) (i := i) (d := dk) (by rw [Hk.out]; exact hki) (by omega)
              rw [Hk.out] at this
              exact this
end Go.Proofs.Ytnaeiffaabeokaa
