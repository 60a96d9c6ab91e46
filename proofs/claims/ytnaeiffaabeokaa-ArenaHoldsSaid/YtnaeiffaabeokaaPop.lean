/- The walk of the heap's pop. -/
import Derived.Test.YtnaeiffaabeokaaDown
namespace Go.Proofs.Ytnaeiffaabeokaa
open Go.RowKit Go.Sort

set_option maxHeartbeats 1000000 in
theorem pop_none (h : Nat) (g : Option Nat) (d : Array Int) (w : World) (H : IsHeap w h g d) (h0 : d.size = 0) :
    Calls Try.prog 17 #[.pointer (some ⟨h, 0, none⟩)] w fun e w' => e = .returned (.tuple #[.int .i64 0, .bool false]) ∧ w = w' := by
  obtain ⟨v, hh, ho, hg⟩ := H
  have hc := cell_of_one hh
  have hv : ∃ a cap, v = .slice a 0 cap := by
    rcases ho.2 with ⟨rfl, _⟩ | ⟨b, cap, cur, rfl, _⟩
    · exact ⟨_, _, rfl⟩
    · exact ⟨_, _, by rw [h0]⟩
  obtain ⟨a, cap, rfl⟩ := hv
  clear ho hg hh h0
  go_enter Try.func17, Try.ntmps17
  go_wp2
  go_ret2
  exact ⟨rfl, rfl⟩

set_option maxHeartbeats 4000000 in
set_option maxRecDepth 100000 in
theorem pop_walk (h b m cap : Nat) (top last : Int) (dd : Array Int) (w : World) (hmc : m + 1 ≤ cap)
    (hh : w.heap[h]? = some (.cells #[.slice (some ⟨b, 0, none⟩) (m + 1) cap] 42 (0, 0))) (hbh : b ≠ h)
    (c0 : w.cell? ⟨b, 0, none⟩ = some (.int .i64 top)) (cm : w.cell? ⟨b, m, none⟩ = some (.int .i64 last)) (z0 : w.frozen? ⟨b, 0, none⟩ = false)
    (hdd : dd.size = m) (hlen : m < 1048577)
    (hH : Holds (Value.int .i64) ((w.setCell ⟨b, 0, none⟩ (.int .i64 last)).setCell ⟨h, 0, none⟩ (.slice (some ⟨b, 0, none⟩) m cap)) b 0 dd) :
    Calls Try.prog 17 #[.pointer (some ⟨h, 0, none⟩)] w fun e w' => e = .returned (.tuple #[.int .i64 top, .bool true]) ∧
      ∃ q, w' = (putRow (Value.int .i64) ((w.setCell ⟨b, 0, none⟩ (.int .i64 last)).setCell ⟨h, 0, none⟩ (.slice (some ⟨b, 0, none⟩) m cap)) b 0 (Hp.down m 0 dd)).drewN q := by
  have hc := cell_of_one hh
  have hf := free_of_one hh
  have fm : ((m : Int) + 1 == 0) = false := beq_eq_false_iff_ne.2 (by omega)
  have hh2 : (w.setCell ⟨b, 0, none⟩ (.int .i64 last)).heap[h]? = some (.cells #[.slice (some ⟨b, 0, none⟩) (m + 1) cap] 42 (0, 0)) := (block_setCell_other _ (by simpa using fun e => hbh e.symm)).trans hh
  have hfld : ((w.setCell ⟨b, 0, none⟩ (.int .i64 last)).setCell ⟨h, 0, none⟩ (.slice (some ⟨b, 0, none⟩) m cap)).cell? ⟨h, 0, none⟩ = some (.slice (some ⟨b, 0, none⟩) m cap) := cell_of_one (one_setCell hh2)
  clear hh2 hh
  have Hdd := Lib.hid hdd
  have Hfld := Lib.hid hfld
  have HH := Lib.hid hH
  clear hdd hfld hH
  go_enter Try.func17, Try.ntmps17
  go_wp2
  go_region
  go_wp2_with fail
  refine (down_walk h b cap dd _ ?a1 hbh ?a2 ?a3).mono ?_
  case a1 => rw [Hdd.out]; exact Hfld.out
  case a2 => exact HH.out
  case a3 => rw [Hdd.out]; omega
  rintro e w' ⟨rfl, q, rfl⟩
  go_wp2
  go_ret2
  refine ⟨rfl, q + 1, ?_⟩
  rw [Hdd.out, Nat.add_comm q 1, ← World.drewN_drewN]
  rfl

/-- The heap that is not empty: what pops is its first; what is left is Hp.pop. -/
theorem pop_some (h : Nat) (g : Option Nat) (d : Array Int) (w : World) (H : IsHeap w h g d) (h0 : 0 < d.size) (hlen : d.size < 1048577) :
    Calls Try.prog 17 #[.pointer (some ⟨h, 0, none⟩)] w fun e w' => e = .returned (.tuple #[.int .i64 d[0]!, .bool true]) ∧
      IsHeap w' h g (Hp.pop d) ∧ Chg (fun k => k = h ∨ g = some k) w w' := by
  have hne := H.ne
  obtain ⟨v, hh, ho, rfl⟩ := H
  have hH0 : ∃ b cap, v = .slice (some ⟨b, 0, none⟩) d.size cap := by
    rcases ho.2 with ⟨_, hz⟩ | ⟨b, cap, cur, rfl, _⟩
    · omega
    · exact ⟨b, cap, rfl⟩
  obtain ⟨b, cap, rfl⟩ := hH0
  have hH := holds_of ho
  have hbh : b ≠ h := fun e => hne (by simp [Value.ownBlock, e])
  obtain ⟨m, hm⟩ : ∃ m, d.size = m + 1 := ⟨d.size - 1, by omega⟩
  obtain ⟨dd, hdd⟩ : ∃ dd, dd = (d.setIfInBounds 0 d[d.size - 1]!).pop := ⟨_, rfl⟩
  have hds : dd.size = m := by rw [hdd]; simp; omega
  have hcap : d.size ≤ cap ∧ cap ≤ maxLen := by
    rcases ho.2 with ⟨e, _⟩ | ⟨b', cap', cur, e, _, _, h1, h2, _⟩
    · simp at e
    · simp only [Value.slice.injEq, Option.some.injEq, Addr.mk.injEq, true_and, and_true] at e
      obtain ⟨rfl, rfl⟩ := e
      exact ⟨h1, h2⟩
  have hdg : ∀ j, j < m → dd[j]! = if j = 0 then d[m]! else d[j]! := by
    intro j hj
    rw [hdd, Hp.popped_get d (by omega)]
    rw [show d.size - 1 = m by omega]
  have hhne : h ≠ b := fun e => hbh e.symm
  have hW : Holds (Value.int .i64) ((w.setCell ⟨b, 0, none⟩ (.int .i64 d[m]!)).setCell ⟨h, 0, none⟩ (.slice (some ⟨b, 0, none⟩) m cap)) b 0 dd := by
    intro j hj
    rw [hds] at hj
    have hold := hH j (by omega)
    refine ⟨?_, ?_⟩
    · rw [World.cell?_setCell_other _ _ _ _ (by simp)]
      by_cases hj0 : j = 0
      · subst hj0
        rw [hdg 0 hj, if_pos rfl]
        exact World.cell?_setCell_same' _ _ _ (by rw [hold.1]; rfl)
      · rw [World.cell?_setCell_other _ _ _ _ (by simp <;> omega), hdg j hj, if_neg hj0]
        exact hold.1
    · rw [World.frozen?_setCell, World.frozen?_setCell]
      exact hold.2
  have h00 := hH 0 h0
  have hmm := hH m (by omega)
  simp only [Nat.zero_add] at h00 hmm
  rw [hm] at hh hcap
  refine (pop_walk h b m cap d[0]! d[m]! dd w hcap.1 hh hbh h00.1 hmm.1 h00.2 hds (by omega) hW).mono ?_
  rintro e w' ⟨rfl, q, rfl⟩
  have hh1 : (w.setCell ⟨b, 0, none⟩ (.int .i64 d[m]!)).heap[h]? = some (.cells #[.slice (some ⟨b, 0, none⟩) (m + 1) cap] 42 (0, 0)) := (block_setCell_other _ (by simpa using hhne)).trans hh
  refine ⟨rfl, ?_, ?_⟩
  · have := IsHeap.put (w := ((w.setCell ⟨b, 0, none⟩ (.int .i64 d[m]!)).setCell ⟨h, 0, none⟩ (.slice (some ⟨b, 0, none⟩) m cap))) (h := h) (b := b) (cap := cap) (d := dd) (d2 := Hp.down m 0 dd) (by rw [hds]; exact one_setCell hh1) ?_ (by rw [Hp.down_size])
    · have e : Hp.pop d = Hp.down m 0 dd := by rw [Hp.pop, ← hdd, show d.size - 1 = m by omega]
      rw [e]
      exact this.drewN q
    · rw [hds]
      refine ownsRow_setCell_other ?_ (by simpa [Value.ownBlock] using hbh) _
      refine ⟨by simp [hds], ?_⟩
      rcases ho.2 with ⟨e, _⟩ | ⟨b', cap', cur, e, g0, g1, g2, g3, g4, g5⟩
      · simp at e
      · simp only [Value.slice.injEq, Option.some.injEq, Addr.mk.injEq, true_and, and_true] at e
        obtain ⟨rfl, rfl⟩ := e
        refine .inr ⟨b, cap, cur.setIfInBounds 0 (.int .i64 d[m]!), rfl, g0, block_setCell _ g1, by omega, g3, by simpa using g4, ?_⟩
        rw [Nat.mul_one] at g5 ⊢
        apply List.ext_getElem?
        intro k
        have g6 := congrArg (fun l => l[k]?) g5
        simp only [List.getElem?_take, Array.getElem?_toList, List.getElem?_map] at g6 ⊢
        by_cases hk : k < m
        · rw [if_pos hk]
          rw [if_pos (by omega)] at g6
          rw [Array.getElem?_setIfInBounds]
          have hdk := hdg k hk
          rw [getElem!_pos dd k (by omega)] at hdk
          rw [Array.getElem?_eq_getElem (show k < dd.size by omega), hdk]
          by_cases hk0 : k = 0
          · subst hk0
            rw [if_pos rfl, if_pos (by omega), if_pos rfl]
            rfl
          · rw [if_neg (fun e => hk0 e.symm), if_neg hk0, g6, Array.getElem?_eq_getElem (show k < d.size by omega), getElem!_pos d k (by omega)]
        · rw [if_neg hk, Array.getElem?_eq_none (by omega)]
          rfl
  · refine Chg.drewN ?_ q
    refine Chg.putRow ?_ _ _ _ (fun _ => .inr rfl)
    exact ((Chg.refl _ w).setCell (fun _ => .inr rfl) _).setCell (fun _ => .inl rfl) _
#print axioms pop_some
end Go.Proofs.Ytnaeiffaabeokaa
