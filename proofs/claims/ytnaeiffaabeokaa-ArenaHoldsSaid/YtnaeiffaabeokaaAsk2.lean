/- The arena's questions that are asked of a place: is it there, is it free, is it taken. -/
import Derived.Test.YtnaeiffaabeokaaAsk
namespace Go.Proofs.Ytnaeiffaabeokaa
open Go.RowKit Go.Sort

theorem IsSet.later {w w' : World} {m : Nat} {T : List Int} (h : IsSet w m T) (hb : Below w.heap.size w w') : IsSet w' m T :=
  h.keep (Chg.of_below (S := fun _ => False) hb) (by simp)
theorem IsSet.lookup_all {w : World} {m : Nat} {T : List Int} (h : IsSet w m T) {x : Int} (hx : (Lit.int .i64 x).wf = true) (n : Nat) :
    (Instr.lookup 43 (.map (some m)) (.int .i64 x) false).run Try.prog (w.drewN n) = .ok (.bool (decide (x ∈ T))) (w.drewN n) :=
  IsSet.lookup (w := w.drewN n) h hx
theorem IsSet.lookup_drew {w : World} {m : Nat} {T : List Int} (h : IsSet w m T) {x : Int} (hx : (Lit.int .i64 x).wf = true) :
    (Instr.lookup 43 (.map (some m)) (.int .i64 x) false).run Try.prog w.drew = .ok (.bool (decide (x ∈ T))) w.drew :=
  IsSet.lookup (w := w.drew) h hx

theorem two_cells (W : World) (x y : Value) (t u : TypeId) : ((W.alloc (.cells #[x] t)).alloc (.cells #[y] u)).cell? ⟨W.heap.size, 0, none⟩ = some x ∧ ((W.alloc (.cells #[x] t)).alloc (.cells #[y] u)).cell? ⟨W.heap.size + 1, 0, none⟩ = some y := by
  refine ⟨cell_of (block_alloc_old _ (block_alloc_new W _)) rfl, ?_⟩
  have := block_alloc_new (W.alloc (.cells #[x] t)) (.cells #[y] u)
  rw [World.size_alloc] at this
  exact cell_of this rfl

def thereE (many at_ : Int) : Int := if 0 ≤ at_ ∧ at_ < many then 0 else 4

set_option maxHeartbeats 1000000 in
set_option maxRecDepth 100000 in
theorem in_any (ba bt a h m : Nat) (many high at_ : Int) (W : World) (hA : IsArenaB W a h m many high) (cba : W.cell? ⟨ba, 0, none⟩ = some (.pointer (some ⟨a, 0, none⟩))) (cbt : W.cell? ⟨bt, 0, none⟩ = some (.int .i64 at_)) :
    Calls Try.prog 29 #[.pointer (some ⟨bt, 0, none⟩), .pointer (some ⟨ba, 0, none⟩)] W fun r w' => r = .returned (.int .i64 (thereE many at_)) ∧ Below W.heap.size W w' := by
  have c1 := hA.c1
  clear hA
  by_cases h1 : 0 ≤ at_
  · by_cases h2 : at_ < many
    · have e : thereE many at_ = 0 := if_pos ⟨h1, h2⟩
      rw [e]
      clear e
      go_enter Try.func29, Try.ntmps29
      go_wp2
      go_still_tail 10, (by kernel_rfl)
      change wpList _ _ _ _ _ W.drew
      obtain ⟨W2, hW2⟩ : ∃ W2, W2 = W.drew := ⟨_, rfl⟩
      have hB : Below W.heap.size W W2 := by rw [hW2]; exact (Below.refl _ _).drew
      rw [← hW2]
      clear hW2
      go_wp2_with fail
      refine (is_any _ _ _).mono ?_
      rintro r w1 ⟨rfl, rfl⟩
      have hk := fun x y => two_cells W2 x y 4 25
      go_wp2_with fail
      refine (is1_any _ _ _ _ _ (hk _ _).1 (hk _ _).2).mono ?_
      rintro r w1 ⟨rfl, rfl⟩
      clear hk
      go_wp2
      go_ret
      exact ⟨rfl, (hB.alloc hB.size _).alloc (by have := hB.size; simp; omega) _⟩
    · have e : thereE many at_ = 4 := if_neg (fun hh => h2 hh.2)
      have h2' : decide (at_ < many) = false := decide_eq_false h2
      rw [e]
      clear e
      go_enter Try.func29, Try.ntmps29
      go_wp2
      go_still_tail 10, (by kernel_rfl)
      change wpList _ _ _ _ _ W.drew
      obtain ⟨W2, hW2⟩ : ∃ W2, W2 = W.drew := ⟨_, rfl⟩
      have hB : Below W.heap.size W W2 := by rw [hW2]; exact (Below.refl _ _).drew
      rw [← hW2]
      clear hW2
      go_wp2_with fail
      refine (is_any _ _ _).mono ?_
      rintro r w1 ⟨rfl, rfl⟩
      have hk := fun x y => two_cells W2 x y 4 25
      go_wp2_with fail
      refine (is1_any _ _ _ _ _ (hk _ _).1 (hk _ _).2).mono ?_
      rintro r w1 ⟨rfl, rfl⟩
      clear hk
      go_wp2
      go_ret
      exact ⟨rfl, (hB.alloc hB.size _).alloc (by have := hB.size; simp; omega) _⟩
  · have e : thereE many at_ = 4 := if_neg (fun hh => h1 hh.1)
    have h1' : decide (0 ≤ at_) = false := decide_eq_false h1
    rw [e]
    clear e
    go_enter Try.func29, Try.ntmps29
    go_wp2
    go_still_tail 10, (by kernel_rfl)
    change wpList _ _ _ _ _ W.drew
    obtain ⟨W2, hW2⟩ : ∃ W2, W2 = W.drew := ⟨_, rfl⟩
    have hB : Below W.heap.size W W2 := by rw [hW2]; exact (Below.refl _ _).drew
    rw [← hW2]
    clear hW2
    go_wp2_with fail
    refine (is_any _ _ _).mono ?_
    rintro r w1 ⟨rfl, rfl⟩
    have hk := fun x y => two_cells W2 x y 4 25
    go_wp2_with fail
    refine (is1_any _ _ _ _ _ (hk _ _).1 (hk _ _).2).mono ?_
    rintro r w1 ⟨rfl, rfl⟩
    clear hk
    go_wp2
    go_ret
    exact ⟨rfl, (hB.alloc hB.size _).alloc (by have := hB.size; simp; omega) _⟩

def freeE (T : List Int) (x : Int) : Int := if x ∈ T then 210 else 0
def takenE (T : List Int) (x : Int) : Int := if x ∈ T then 0 else 5

set_option maxHeartbeats 1000000 in
set_option maxRecDepth 100000 in
theorem free_any (ba bt a h m : Nat) (many high x : Int) (T : List Int) (W : World) (hA : IsArenaB W a h m many high) (hS : IsSet W m T) (hx : (Lit.int .i64 x).wf = true) (cba : W.cell? ⟨ba, 0, none⟩ = some (.pointer (some ⟨a, 0, none⟩))) (cbt : W.cell? ⟨bt, 0, none⟩ = some (.int .i64 x)) :
    Calls Try.prog 24 #[.pointer (some ⟨ba, 0, none⟩), .pointer (some ⟨bt, 0, none⟩)] W fun r w' => r = .returned (.int .i64 (freeE T x)) ∧ Below W.heap.size W w' := by
  have c3 := hA.c3
  have hl := hS.lookup_drew hx
  clear hA hS hx
  unfold freeE
  by_cases h1 : x ∈ T
  · rw [if_pos h1]
    rw [decide_eq_true h1] at hl
    go_enter Try.func24, Try.ntmps24
    go_wp2
    go_still_tail 7, (by kernel_rfl)
    change wpList _ _ _ _ _ W.drew
    obtain ⟨W2, hW2⟩ : ∃ W2, W2 = W.drew := ⟨_, rfl⟩
    have hB : Below W.heap.size W W2 := by rw [hW2]; exact (Below.refl _ _).drew
    rw [← hW2]
    clear hW2
    go_wp2_with fail
    refine (is_any _ _ _).mono ?_
    rintro r w1 ⟨rfl, rfl⟩
    have hk := fun x y => two_cells W2 x y 4 25
    go_wp2_with fail
    refine (is1_any _ _ _ _ _ (hk _ _).1 (hk _ _).2).mono ?_
    rintro r w1 ⟨rfl, rfl⟩
    clear hk
    go_wp2
    go_ret
    exact ⟨rfl, (hB.alloc hB.size _).alloc (by have := hB.size; simp; omega) _⟩
  · rw [if_neg h1]
    rw [decide_eq_false h1] at hl
    go_enter Try.func24, Try.ntmps24
    go_wp2
    go_still_tail 7, (by kernel_rfl)
    change wpList _ _ _ _ _ W.drew
    obtain ⟨W2, hW2⟩ : ∃ W2, W2 = W.drew := ⟨_, rfl⟩
    have hB : Below W.heap.size W W2 := by rw [hW2]; exact (Below.refl _ _).drew
    rw [← hW2]
    clear hW2
    go_wp2_with fail
    refine (is_any _ _ _).mono ?_
    rintro r w1 ⟨rfl, rfl⟩
    have hk := fun x y => two_cells W2 x y 4 25
    go_wp2_with fail
    refine (is1_any _ _ _ _ _ (hk _ _).1 (hk _ _).2).mono ?_
    rintro r w1 ⟨rfl, rfl⟩
    clear hk
    go_wp2
    go_ret
    exact ⟨rfl, (hB.alloc hB.size _).alloc (by have := hB.size; simp; omega) _⟩

set_option maxHeartbeats 1000000 in
set_option maxRecDepth 100000 in
theorem taken_any (ba bt a h m : Nat) (many high x : Int) (T : List Int) (W : World) (hA : IsArenaB W a h m many high) (hS : IsSet W m T) (hx : (Lit.int .i64 x).wf = true) (cba : W.cell? ⟨ba, 0, none⟩ = some (.pointer (some ⟨a, 0, none⟩))) (cbt : W.cell? ⟨bt, 0, none⟩ = some (.int .i64 x)) :
    Calls Try.prog 20 #[.pointer (some ⟨ba, 0, none⟩), .pointer (some ⟨bt, 0, none⟩)] W fun r w' => r = .returned (.int .i64 (takenE T x)) ∧ Below W.heap.size W w' := by
  have c3 := hA.c3
  have hl := hS.lookup_drew hx
  clear hA hS hx
  unfold takenE
  by_cases h1 : x ∈ T
  · rw [if_pos h1]
    rw [decide_eq_true h1] at hl
    go_enter Try.func20, Try.ntmps20
    go_wp2
    go_still_tail 6, (by kernel_rfl)
    change wpList _ _ _ _ _ W.drew
    obtain ⟨W2, hW2⟩ : ∃ W2, W2 = W.drew := ⟨_, rfl⟩
    have hB : Below W.heap.size W W2 := by rw [hW2]; exact (Below.refl _ _).drew
    rw [← hW2]
    clear hW2
    go_wp2_with fail
    refine (is_any _ _ _).mono ?_
    rintro r w1 ⟨rfl, rfl⟩
    have hk := fun x y => two_cells W2 x y 4 25
    go_wp2_with fail
    refine (is1_any _ _ _ _ _ (hk _ _).1 (hk _ _).2).mono ?_
    rintro r w1 ⟨rfl, rfl⟩
    clear hk
    go_wp2
    go_ret
    exact ⟨rfl, (hB.alloc hB.size _).alloc (by have := hB.size; simp; omega) _⟩
  · rw [if_neg h1]
    rw [decide_eq_false h1] at hl
    go_enter Try.func20, Try.ntmps20
    go_wp2
    go_still_tail 6, (by kernel_rfl)
    change wpList _ _ _ _ _ W.drew
    obtain ⟨W2, hW2⟩ : ∃ W2, W2 = W.drew := ⟨_, rfl⟩
    have hB : Below W.heap.size W W2 := by rw [hW2]; exact (Below.refl _ _).drew
    rw [← hW2]
    clear hW2
    go_wp2_with fail
    refine (is_any _ _ _).mono ?_
    rintro r w1 ⟨rfl, rfl⟩
    have hk := fun x y => two_cells W2 x y 4 25
    go_wp2_with fail
    refine (is1_any _ _ _ _ _ (hk _ _).1 (hk _ _).2).mono ?_
    rintro r w1 ⟨rfl, rfl⟩
    clear hk
    go_wp2
    go_ret
    exact ⟨rfl, (hB.alloc hB.size _).alloc (by have := hB.size; simp; omega) _⟩
end Go.Proofs.Ytnaeiffaabeokaa
