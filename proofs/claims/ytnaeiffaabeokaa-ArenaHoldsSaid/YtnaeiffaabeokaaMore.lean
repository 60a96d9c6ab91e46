/- The walks of New, Len, Same. -/
import Derived.Test.YtnaeiffaabeokaaClaim
namespace Go.Proofs.Ytnaeiffaabeokaa
open Go.RowKit Go.Sort

theorem hp_nil : Hp.HP #[] := by unfold Hp.HP; intro k; intros; simp_all
theorem Inv.start (many : Int) (h0 : 0 ≤ many) (h1 : many ≤ 65536) : Inv many 0 #[] [] :=
  ⟨Int.le_refl 0, h0, h1, hp_nil, List.nodup_nil, by simp, by rintro x ⟨k, hk, _⟩; simp at hk, by intro x h0 h1; omega⟩

/-- Four new blocks: what stands behind New. -/
def Fresh (n : Nat) (a h m : Nat) (g : Option Nat) : Prop := ∀ k, Foot a h m g k → n ≤ k

theorem block_alloc_at {w : World} {n : Nat} (o : Obj) (h : n = w.heap.size) : (w.alloc o).heap[n]? = some o := by rw [h]; exact block_alloc_new w o
set_option maxHeartbeats 1000000 in
theorem new_walk (many : Int) (h0 : 0 ≤ many) (h1 : many ≤ 65536) (w : World) :
    Calls Try.prog 5 #[.int .i64 many] w fun e w' => ∃ a h m, e = .returned (.tuple #[.pointer (some ⟨a, 0, none⟩), .int .i64 0]) ∧ IsArena w' a h m none many 0 #[] [] ∧ Below w.heap.size w w' ∧ Fresh w.heap.size a h m none := by
  have g0 : decide (many < 0) = false := decide_eq_false (by omega)
  have g1 : decide (65536 < many) = false := decide_eq_false (by omega)
  go_enter Try.func5, Try.ntmps5
  have hmk : ∀ W : World, (Instr.makeMap 43 none).run Try.prog W = .ok (.map (some W.heap.size)) (W.alloc (.map #[] 0)) := fun W => rfl
  go_wp2
  go_ret2
  have B1 : Below w.heap.size w (w.alloc (.cells #[.slice none 0 0] 42)) := (Below.refl _ w).alloc (Nat.le_refl _) _
  have B2 := B1.alloc (by simp) (.map #[] 0)
  refine ⟨_, w.heap.size, w.heap.size + 1, rfl, ⟨block_alloc_at _ (by simp), ⟨.slice none 0 0, ?_, World.ownsRow_nil _ _ _ _, rfl⟩, ?_⟩, B2.alloc (by simp; omega) _, ?_⟩
  · exact block_alloc_old _ (block_alloc_old _ (block_alloc_new _ _))
  · refine (IsSet.later (w := (w.alloc (.cells #[.slice none 0 0] 42)).alloc (.map #[] 0)) ?_ ((Below.refl _ _).alloc (Nat.le_refl _) _))
    have := HasMap.made (w.alloc (.cells #[.slice none 0 0] 42))
    rw [World.size_alloc] at this
    exact this
  · rintro k (rfl | rfl | rfl | e)
    · omega
    · exact Nat.le_refl _
    · exact Nat.le_succ _
    · cases e

theorem new_bad (w : World) :
    Calls Try.prog 5 #[.int .i64 (-1)] w fun e w' => e = .returned (.tuple #[.pointer none, .int .i64 2]) ∧ w = w' := by
  go_enter Try.func5, Try.ntmps5
  go_wp2
  go_ret2
  exact ⟨rfl, rfl⟩

theorem len_walk (a h m : Nat) (g : Option Nat) (many high : Int) (d : Array Int) (T : List Int) (w : World) (H : IsArena w a h m g many high d T) :
    Calls Try.prog 12 #[.pointer (some ⟨a, 0, none⟩)] w fun e w' => e = .returned (.int .i64 T.length) ∧ w = w' := by
  have c3 := H.base.c3
  have hl := H.set.len 3
  go_enter Try.func12, Try.ntmps12
  go_wp2_with fail
  refine (none_any _ _ _ c3).mono ?_
  rintro e w' ⟨rfl, rfl⟩
  go_wp2
  go_ret
  exact ⟨rfl, rfl⟩

/-- Do two sets hold the same? -/
def sameE (T U : List Int) : Bool := decide (T.length = U.length) && T.all (fun x => decide (x ∈ U))

set_option maxHeartbeats 1000000 in
theorem same_walk (a h m : Nat) (g : Option Nat) (many high : Int) (d : Array Int) (T : List Int) (a' h' m' : Nat) (g' : Option Nat) (high' : Int) (d' : Array Int) (U : List Int) (w : World) (H : IsArena w a h m g many high d T) (H' : IsArena w a' h' m' g' many high' d' U) :
    Calls Try.prog 10 #[.pointer (some ⟨a, 0, none⟩), .pointer (some ⟨a', 0, none⟩)] w fun e w' => e = .returned (.bool (sameE T U)) ∧ Below w.heap.size w w' := by
  have c1 := H.base.c1
  have c3 := H.base.c3
  have k1 := H'.base.c1
  have k3 := H'.base.c3
  have HS := Lib.hid H.set
  have HS' := Lib.hid H'.set
  have hmm : (many == many) = true := by simp
  clear H H'
  go_enter Try.func10, Try.ntmps10
  go_wp2_with fail
  refine (none_any _ _ _ c3).mono ?_
  rintro e w' ⟨rfl, rfl⟩
  go_wp2_with fail
  refine (none_any _ _ _ k3).mono ?_
  rintro e w' ⟨rfl, rfl⟩
  go_wp2_with fail
  go_still_tail 18, (by kernel_rfl)
  change wpList _ _ _ _ _ w.drew
  go_wp2_with fail
  refine (set_equal m m' T U w.drew (by exact HS.out) (by exact HS'.out)).mono ?_
  rintro e w' ⟨rfl, hb⟩
  go_wp2
  go_ret
  exact ⟨rfl, ⟨hb.os, hb.tape, hb.output, hb.size, hb.block⟩⟩
#print axioms len_walk
end Go.Proofs.Ytnaeiffaabeokaa
