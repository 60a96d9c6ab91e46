/- The walk of Copy. -/
import Derived.Test.YtnaeiffaabeokaaMore
import Derived.Deep.RegionHeld3
namespace Go.Proofs.Ytnaeiffaabeokaa
open Go.RowKit Go.Sort

theorem ownsRow_base {w : World} {b c : Nat} {v : Value} {n : Nat} {xs : List Value} (h : w.ownsRow b 3 1 v n xs) (hc : c ≤ b) : w.ownsRow c 3 1 v n xs := by
  refine ⟨h.1, ?_⟩
  rcases h.2 with e | ⟨k, cap, cur, rfl, hb0, r⟩
  · exact .inl e
  · exact .inr ⟨k, cap, cur, rfl, Nat.le_trans hc hb0, r⟩

theorem ownsRow_later {w W : World} {v : Value} {n : Nat} {xs : List Value} (h : w.ownsRow 0 3 1 v n xs) (hb : Below w.heap.size w W) : W.ownsRow 0 3 1 v n xs := by
  refine ⟨h.1, ?_⟩
  rcases h.2 with e | ⟨k, cap, cur, rfl, hb0, hk, r⟩
  · exact .inl e
  · exact .inr ⟨k, cap, cur, rfl, hb0, (hb.block k (lt_of_block hk)).trans hk, r⟩

theorem below_after {w W W' : World} {R : Prop} (h : Below w.heap.size w W ∧ R) (hb : Below W.heap.size W W') : Below w.heap.size w W' := h.1.trans (hb.mono h.1.size)
theorem below_alloc {w W : World} {R : Prop} (h : Below w.heap.size w W ∧ R) (o : Obj) : Below w.heap.size w (W.alloc o) := h.1.alloc h.1.size o

theorem slice_of {w : World} {b : Nat} {v : Value} {n : Nat} {xs : List Value} (h : w.ownsRow b 3 1 v n xs) : ∃ p k cap, v = .slice p k cap := by
  rcases h.2 with ⟨e, _⟩ | ⟨k, cap, cur, rfl, _⟩
  · exact ⟨_, _, _, e⟩
  · exact ⟨_, _, _, rfl⟩

set_option maxHeartbeats 4000000 in
set_option maxRecDepth 100000 in
theorem copy_walk (a h m : Nat) (g : Option Nat) (many high : Int) (d : Array Int) (T : List Int) (w : World) (H : IsArena w a h m g many high d T) (hlen : d.size < 1073741824) :
    Calls Try.prog 7 #[.pointer (some ⟨a, 0, none⟩)] w fun e w' => ∃ a' h' m' g', e = .returned (.pointer (some ⟨a', 0, none⟩)) ∧ IsArena w' a' h' m' g' many high d T ∧ Below w.heap.size w w' ∧ Fresh w.heap.size a' h' m' g' := by
  have c3 := H.base.c3
  obtain ⟨hB, ⟨v, hv, ho, hg⟩, hS⟩ := H
  have HB := Lib.hid hB
  have HO := Lib.hid ho
  have HS := Lib.hid hS
  have l0 : w.cell? ⟨h, 0, none⟩ = some v := cell_of hv rfl
  have c0 := hB.c0
  have c1 := hB.c1
  have c2 := hB.c2
  have HV := Lib.hid hv
  have hkeep : Hid (∀ W, Below w.heap.size w W → Below w.heap.size w W ∧ W.cell? ⟨h, 0, none⟩ = some v ∧ W.cell? ⟨a, 0, none⟩ = some (.pointer (some ⟨h, 0, none⟩)) ∧ W.cell? ⟨a, 1, none⟩ = some (.int .i64 many) ∧ W.cell? ⟨a, 2, none⟩ = some (.int .i64 high) ∧ W.cell? ⟨a, 3, none⟩ = some (.map (some m))) :=
    Lib.hid fun W hb => ⟨hb, (hb.cell (World.block_lt_of_cell? w _ l0)).trans l0, (hb.cell (World.block_lt_of_cell? w _ c0)).trans c0, (hb.cell (World.block_lt_of_cell? w _ c1)).trans c1, (hb.cell (World.block_lt_of_cell? w _ c2)).trans c2, (hb.cell (World.block_lt_of_cell? w _ c3)).trans c3⟩
  clear hB hv ho hS
  go_enter Try.func7, Try.ntmps7
  go_wp2_with fail
  refine (none_any _ _ _ c3).mono ?_
  rintro e w' ⟨rfl, rfl⟩
  go_wp2_with fail
  go_region_held3 (fun W => Below w.heap.size w W ∧ W.cell? ⟨h, 0, none⟩ = some v ∧ W.cell? ⟨a, 0, none⟩ = some (.pointer (some ⟨h, 0, none⟩)) ∧ W.cell? ⟨a, 1, none⟩ = some (.int .i64 many) ∧ W.cell? ⟨a, 2, none⟩ = some (.int .i64 high) ∧ W.cell? ⟨a, 3, none⟩ = some (.map (some m))) 
    (first | (refine hkeep.out _ ?_; first | exact (Below.refl _ w).drew | assumption | exact below_alloc (by assumption) _))
    (first | (go_at_call 15; refine (list_clone v d.size d.toList _ ?_ hlen).mono ?_; exact ownsRow_later HO.out (And.left (by assumption)); rintro e w1 ⟨v1, rfl, ho1, hb1⟩; obtain ⟨p1, k1, cap1, rfl⟩ := slice_of ho1; have hbb := below_after (by assumption) hb1) | (go_at_call 16; refine (set_clone m T _ ?_).mono ?_; exact IsSet.later HS.out (And.left (by assumption)); rintro e w1 ⟨rfl, hs1, hz1, hb1⟩; have hbb := below_after (by assumption) hb1))
  · rename_i W1 hbW hbbW hHeld
    go_wp2
    go_ret
    have hw1 : w.heap.size ≤ W1.heap.size := hbbW.size
    have hB1 : Below W1.heap.size W1 (W1.alloc (.cells #[.slice p1 k1 cap1] 42)) := (Below.refl _ W1).alloc (Nat.le_refl _) _
    have hB2 := hB1.trans (hb1.mono hB1.size)
    have hsz := hb1.size
    rw [World.size_alloc] at hsz hz1 hs1
    refine ⟨_, W1.heap.size, W1.heap.size + 1, (Value.slice p1 k1 cap1).ownBlock, rfl, ⟨block_alloc_at _ (by first | rfl | simp [hz1]), ⟨_, block_alloc_old _ ((hb1.block _ (by simp)).trans (block_alloc_new _ _)), ?_, rfl⟩, ?_⟩, hHeld.1, ?_⟩
    · exact ownsRow_later (ownsRow_base ho1 (Nat.zero_le _)) (hB2.alloc (by omega) _)
    · exact hs1.later ((Below.refl _ _).alloc (Nat.le_refl _) _)
    · rintro k (rfl | rfl | rfl | e)
      · omega
      · exact hw1
      · omega
      · exact (ho1.lt k e).1
  · rename_i W1 hbW hbbW hHeld
    go_wp2
    go_ret
    have hw1 : w.heap.size ≤ W1.heap.size := hbbW.size
    have hB2 := hb1.alloc hb1.size (.cells #[.slice p1 k1 cap1] 42)
    have hB3 := hB2.alloc hB2.size
      (Obj.cells #[Value.pointer (some ⟨W1.heap.size + 1, 0, none⟩), Value.int IntKind.i64 many, Value.int IntKind.i64 high, Value.map (some W1.heap.size)] 45)
    refine ⟨_, W1.heap.size + 1, W1.heap.size, (Value.slice p1 k1 cap1).ownBlock, rfl, ⟨block_alloc_at _ (by simp [hz1]), ⟨_, block_alloc_old _ (block_alloc_at _ (by rw [hz1])), ?_, rfl⟩, ?_⟩, hHeld.1, ?_⟩
    · exact ownsRow_later (ownsRow_base ho1 (Nat.zero_le _)) hB3
    · exact (hs1.later ((Below.refl _ _).alloc (Nat.le_refl _) _)).later ((Below.refl _ _).alloc (Nat.le_refl _) _)
    · rintro k (rfl | rfl | rfl | e)
      · omega
      · omega
      · exact hw1
      · exact (ho1.lt k e).1
#print axioms copy_walk
end Go.Proofs.Ytnaeiffaabeokaa
