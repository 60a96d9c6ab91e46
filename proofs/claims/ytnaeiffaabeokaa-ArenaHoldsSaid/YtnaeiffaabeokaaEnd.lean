/- ArenaHolds: for every row of acts the law answers true, and what lay before lies as it lay. -/
import Derived.Test.YtnaeiffaabeokaaLaw
import Derived.ProofKit
import Derived.Deep.Slices
import Derived.Deep.Fields
import Derived.ChangeSame
namespace Go.Proofs.Ytnaeiffaabeokaa
open Go.RowKit Go.Sort

set_option maxHeartbeats 4000000 in
set_option maxRecDepth 100000 in
theorem law_long (p : Option Addr) (cap len : Nat) (w : World) (hlen : 80 < len) :
    Calls Try.prog 3 #[.slice p len cap] w fun e w' => e = .returned (.bool true) ∧ Below w.heap.size w w' := by
  have g80 : (80 : Int) < (len : Int) := by omega
  go_enter Try.func3, Try.ntmps3
  go_wp2_with fail
  refine (works_any _).mono ?_
  rintro e w5 ⟨rfl, hb5⟩
  go_wp2
  go_ret
  exact ⟨rfl, hb5⟩

set_option maxHeartbeats 4000000 in
set_option maxRecDepth 100000 in
theorem law_empty (p : Option Addr) (cap : Nat) (w : World) :
    Calls Try.prog 3 #[.slice p 0 cap] w fun e w' => e = .returned (.bool true) ∧ Below w.heap.size w w' := by
  have hmk : ∀ W : World, (Instr.makeMap 29 none).run Try.prog W = .ok (.map (some W.heap.size)) (W.alloc (.map #[] 0)) := fun W => rfl
  go_enter Try.func3, Try.ntmps3
  go_wp2_with fail
  refine (new_ar (fun k => w.heap.size ≤ k) 30 (by decide) (by decide) w (fun _ h => h)).mono ?_
  rintro e w1 ⟨a, rfl, _, hb1, ha1⟩
  go_wp2_with fail
  refine (num_any _ _).mono ?_
  rintro e w2 ⟨rfl, rfl⟩
  have hb : Below w1.heap.size w1 (w1.alloc (.map #[] 0)) := (Below.refl _ w1).alloc (Nat.le_refl _) _
  have HB := Lib.hid (hb1.trans (hb.mono hb1.size))
  clear hb hb1
  go_wp2_with fail
  refine wp_loop_rounds 1 ?_
  rw [rounds_succ]
  go_wp2_with fail
  refine (works_any _).mono ?_
  rintro e w5 ⟨rfl, hb5⟩
  go_wp2
  go_ret
  exact ⟨rfl, HB.out.trans (hb5.mono HB.out.size)⟩
#print axioms law_empty
end Go.Proofs.Ytnaeiffaabeokaa
