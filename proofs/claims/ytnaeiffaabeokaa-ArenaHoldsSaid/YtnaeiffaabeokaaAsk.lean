/- The arena's questions: none, is, first, there. -/
import Derived.Test.YtnaeiffaabeokaaLib
import Derived.Test.YtnaeiffaabeokaaPop
namespace Go.Proofs.Ytnaeiffaabeokaa
open Go.RowKit Go.Sort

theorem num_any (e : Int) (w : World) :
    Calls Try.prog 6 #[.int .i64 e] w fun r w' => r = .returned (.int .i64 e) ∧ w = w' := by
  go_enter Try.func6, Try.ntmps6
  go_wp2
  go_ret
  exact ⟨rfl, rfl⟩

/-- Block a is an arena of so many places: its heap, its high, its map. -/
def IsArenaB (w : World) (a h m : Nat) (many high : Int) : Prop :=
  w.heap[a]? = some (.cells #[.pointer (some ⟨h, 0, none⟩), .int .i64 many, .int .i64 high, .map (some m)] 45 (0, 0))

theorem IsArenaB.c0 {w : World} {a h m : Nat} {many high : Int} (H : IsArenaB w a h m many high) : w.cell? ⟨a, 0, none⟩ = some (.pointer (some ⟨h, 0, none⟩)) := cell_of H rfl
theorem IsArenaB.c1 {w : World} {a h m : Nat} {many high : Int} (H : IsArenaB w a h m many high) : w.cell? ⟨a, 1, none⟩ = some (.int .i64 many) := cell_of H rfl
theorem IsArenaB.c2 {w : World} {a h m : Nat} {many high : Int} (H : IsArenaB w a h m many high) : w.cell? ⟨a, 2, none⟩ = some (.int .i64 high) := cell_of H rfl
theorem IsArenaB.c3 {w : World} {a h m : Nat} {many high : Int} (H : IsArenaB w a h m many high) : w.cell? ⟨a, 3, none⟩ = some (.map (some m)) := cell_of H rfl

theorem q43 (w : World) (r : Option Nat) : (binOp .eql 43 (.map r) (.map none)).run Try.prog w = .ok (.bool r.isNone) w := run_eql_map_nil w _ _ _ r Try.underlying43

theorem none_nil (w : World) : Calls Try.prog 14 #[.pointer none] w fun r w' => r = .returned (.bool true) ∧ w = w' := by
  go_enter Try.func14, Try.ntmps14
  go_wp2
  go_ret
  exact ⟨rfl, rfl⟩

theorem none_any (a m : Nat) (w : World) (h3 : w.cell? ⟨a, 3, none⟩ = some (.map (some m))) :
    Calls Try.prog 14 #[.pointer (some ⟨a, 0, none⟩)] w fun r w' => r = .returned (.bool false) ∧ w = w' := by
  have q := q43
  go_enter Try.func14, Try.ntmps14
  go_wp2
  go_ret
  exact ⟨rfl, rfl⟩

/-- A function value that, asked in whatever later world, answers the number e, and turns nothing that lies there. -/
def Asks (w0 : World) (g : Nat) (c : Array Value) (e : Int) : Prop :=
  ∀ W, Below w0.heap.size w0 W → Calls Try.prog g c W fun r w' => r = .returned (.int .i64 e) ∧ Below W.heap.size W w'

set_option maxHeartbeats 1000000 in
set_option maxRecDepth 100000 in
theorem first_two (b g1 g2 : Nat) (c1 c2 : Array Value) (e1 e2 : Int) (w : World) (hb : w.heap[b]? = some (.cells #[.func (.func g1) #[] c1, .func (.func g2) #[] c2] 51 (0, 0)))
    (eg1 : ∀ args w, (callFunc g1 args).run Try.prog w = .ok (.enter g1 args) w) (eg2 : ∀ args w, (callFunc g2 args).run Try.prog w = .ok (.enter g2 args) w)
    (h1 : Asks w g1 c1 e1) (h2 : e1 = 0 → Asks w g2 c2 e2) :
    Calls Try.prog 18 #[.slice (some ⟨b, 0, none⟩) 2 2] w fun r w' => r = .returned (.int .i64 (if e1 = 0 then e2 else e1)) ∧ Below w.heap.size w w' := by
  have hlt := lt_of_block hb
  have hc0 : w.cell? ⟨b, 0, none⟩ = some (.func (.func g1) #[] c1) := cell_of hb rfl
  have hc1 : w.cell? ⟨b, 1, none⟩ = some (.func (.func g2) #[] c2) := cell_of hb rfl
  have H1 := Lib.hid h1
  have H2 := Lib.hid h2
  have HB := Lib.hid hb
  clear h1 h2 hb
  by_cases h0 : e1 = 0
  · subst h0
    go_enter Try.func18, Try.ntmps18
    go_wp2
    refine wp_loop_rounds 3 ?_
    rw [rounds_succ]
    go_wp2_with fail
    refine ((H1.out) _ (Below.refl _ _)).mono ?_
    rintro r w1 ⟨rfl, hb1⟩
    have hc1' : w1.cell? ⟨b, 1, none⟩ = some (.func (.func g2) #[] c2) := (hb1.cell (p := ⟨b, 1, none⟩) hlt).trans hc1
    clear hc0 hc1
    go_wp2
    rw [rounds_succ]
    go_wp2_with fail
    refine ((H2.out (by trivial)) _ hb1).mono ?_
    rintro r w2 ⟨rfl, hb2⟩
    have hb3 : Below w.heap.size w w2 := hb1.trans (hb2.mono hb1.size)
    clear hb2 hb1 hc1'
    by_cases h2 : e2 = 0
    · subst h2
      go_wp2
      rw [rounds_succ]
      go_wp2
      go_ret
      exact ⟨rfl, hb3⟩
    · have h2' : (e2 == 0) = false := beq_eq_false_iff_ne.2 h2
      have h2'' : (e2 != 0) = true := by rw [bne_iff_ne]; exact h2
      go_wp2
      go_ret
      exact ⟨rfl, hb3⟩
  · have h2' : (e1 == 0) = false := beq_eq_false_iff_ne.2 h0
    have h2'' : (e1 != 0) = true := by rw [bne_iff_ne]; exact h0
    go_enter Try.func18, Try.ntmps18
    go_wp2
    refine wp_loop_rounds 3 ?_
    rw [rounds_succ]
    go_wp2_with fail
    refine ((H1.out) _ (Below.refl _ _)).mono ?_
    rintro r w1 ⟨rfl, hb1⟩
    go_wp2
    go_ret
    exact ⟨rfl, hb1⟩

/-! ### is(..) -/
theorem is_any (fine : Bool) (e : Int) (w : World) :
    Calls Try.prog 21 #[.bool fine, .int .i64 e] w fun r w' => r = .returned (.func (.func 30) #[] #[.pointer (some ⟨w.heap.size, 0, none⟩), .pointer (some ⟨w.heap.size + 1, 0, none⟩)]) ∧
      w' = (w.alloc (.cells #[.bool fine] 4)).alloc (.cells #[.int .i64 e] 25) := by
  go_enter Try.func21, Try.ntmps21
  go_wp2
  go_ret
  exact ⟨rfl, rfl⟩

theorem is1_any (b1 b2 : Nat) (fine : Bool) (e : Int) (w : World) (h1 : w.cell? ⟨b1, 0, none⟩ = some (.bool fine)) (h2 : w.cell? ⟨b2, 0, none⟩ = some (.int .i64 e)) :
    Calls Try.prog 30 #[.pointer (some ⟨b1, 0, none⟩), .pointer (some ⟨b2, 0, none⟩)] w fun r w' => r = .returned (.int .i64 (if fine then 0 else e)) ∧ w = w' := by
  cases fine
  · go_enter Try.func30, Try.ntmps30
    go_wp2
    go_ret
    exact ⟨rfl, rfl⟩
  · go_enter Try.func30, Try.ntmps30
    go_wp2
    go_ret
    exact ⟨rfl, rfl⟩
end Go.Proofs.Ytnaeiffaabeokaa
