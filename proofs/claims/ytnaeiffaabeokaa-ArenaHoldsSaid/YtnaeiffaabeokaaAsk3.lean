/- The arena's questions: there is such a place, as a function value. -/
import Derived.Test.YtnaeiffaabeokaaAsk2
namespace Go.Proofs.Ytnaeiffaabeokaa
open Go.RowKit Go.Sort

theorem IsArenaB.later {w w' : World} {a h m : Nat} {many high : Int} (H : IsArenaB w a h m many high) (hb : Below w.heap.size w w') : IsArenaB w' a h m many high :=
  (hb.block a (lt_of_block H)).trans H

theorem cell_alloc_keep {w : World} {a : Addr} {v : Value} (o : Obj) (h : w.cell? a = some v) : (w.alloc o).cell? a = some v :=
  (World.cell?_alloc_lt w o _ (World.block_lt_of_cell? w _ h)).trans h

/-- 'taken[x] = true' at the operation. -/
theorem wpList_set_update (w : World) {ops : Array Oper} {rest : List Oper} {o : Oper} {a : Act} {Q : Exit → Act → World → Prop}
    (hg : o.guard = none) (m x v : Operand) (hop : o.op = Op.mapUpdate 43 m x v) (b : Nat) (T : List Int) (y : Int)
    (hm : a.eval m = .map (some b)) (hS : IsSet w b T) (hx : a.eval x = .int .i64 y) (hwf : (Lit.int .i64 y).wf = true) (hv : a.eval v = .bool true) (hlen : T.length < maxLen)
    (hK : ∀ w', IsSet w' b (addT T y) → Chg (fun k => k = b) w w' → wpList Try.prog ops Q rest (a.put o.dst undef) w') : wpList Try.prog ops Q (o :: rest) a w := by
  refine wpList_plain hg fun K' hK' => ?_
  obtain ⟨w', hrun, r1, r2⟩ := hS.update hwf hlen
  unfold Oper.wp
  simp [execOp, hop, hm, hx, hv, hrun, Result.andThen]
  exact hK' _ _ (hK w' r1 r2)
/-- 'delete(taken, x)' at the operation. -/
theorem wpList_set_delete (w : World) {ops : Array Oper} {rest : List Oper} {o : Oper} {a : Act} {Q : Exit → Act → World → Prop}
    (hg : o.guard = none) (m x : Operand) (hop : o.op = Op.call { callee := Callee.builtin Builtin.delete, args := #[m, x], argTypes := #[43, 3] }) (b : Nat) (T : List Int) (y : Int)
    (hm : a.eval m = .map (some b)) (hS : IsSet w b T) (hx : a.eval x = .int .i64 y) (hwf : (Lit.int .i64 y).wf = true)
    (hK : ∀ w', IsSet w' b (T.filter fun z => !(z == y)) → Chg (fun k => k = b) w w' → wpList Try.prog ops Q rest (a.put o.dst (.tuple #[])) w') : wpList Try.prog ops Q (o :: rest) a w := by
  refine wpList_plain hg fun K' hK' => ?_
  obtain ⟨w', hrun, r1, r2⟩ := hS.delete hwf o.type
  unfold Oper.wp
  simp [execOp, hop, resolve, invoke, builtin, hm, hx, hrun, Result.andThen]
  exact hK' _ _ (hK w' r1 r2)

theorem enters30 : ∀ args w, (callFunc 30 args).run Try.prog w = .ok (.enter 30 args) w := enters_of Try.func30 (by kernel_rfl) rfl
theorem enters29 : ∀ args w, (callFunc 29 args).run Try.prog w = .ok (.enter 29 args) w := enters_of Try.func29 (by kernel_rfl) rfl
theorem enters28 : ∀ args w, (callFunc 28 args).run Try.prog w = .ok (.enter 28 args) w := enters_of Try.func28 (by kernel_rfl) rfl
theorem enters24 : ∀ args w, (callFunc 24 args).run Try.prog w = .ok (.enter 24 args) w := enters_of Try.func24 (by kernel_rfl) rfl
theorem enters20 : ∀ args w, (callFunc 20 args).run Try.prog w = .ok (.enter 20 args) w := enters_of Try.func20 (by kernel_rfl) rfl

set_option maxHeartbeats 1000000 in
set_option maxRecDepth 100000 in
theorem there1_any (ba bt a h m : Nat) (many high x : Int) (W : World) (hA : IsArenaB W a h m many high) (cba : W.cell? ⟨ba, 0, none⟩ = some (.pointer (some ⟨a, 0, none⟩))) (cbt : W.cell? ⟨bt, 0, none⟩ = some (.int .i64 x)) :
    Calls Try.prog 28 #[.pointer (some ⟨ba, 0, none⟩), .pointer (some ⟨bt, 0, none⟩)] W fun r w' => r = .returned (.int .i64 (thereE many x)) ∧ Below W.heap.size W w' := by
  have c3 := hA.c3
  have lba : ba < W.heap.size := World.block_lt_of_cell? W _ cba
  have lbt : bt < W.heap.size := World.block_lt_of_cell? W _ cbt
  obtain ⟨X, hX⟩ : ∃ X, X = (((W.alloc (.cells #[.bool true] 4)).alloc (.cells #[.int .i64 1] 25)).alloc (.cells #[.func (.func 30) #[] #[.pointer (some ⟨W.heap.size, 0, none⟩), .pointer (some ⟨W.heap.size + 1, 0, none⟩)], .func (.func 29) #[] #[.pointer (some ⟨bt, 0, none⟩), .pointer (some ⟨ba, 0, none⟩)]] 51)) := ⟨_, rfl⟩
  have hXB : Below W.heap.size W X := by rw [hX]; exact (((Below.refl _ W).alloc (Nat.le_refl _) _).alloc (by simp) _).alloc (by simp; omega) _
  have hXs : X.heap.size = W.heap.size + 3 := by rw [hX]; simp
  have k1 := two_cells W (.bool true) (.int .i64 1) 4 25
  have x1 : X.cell? ⟨W.heap.size, 0, none⟩ = some (.bool true) := by rw [hX]; exact cell_alloc_keep _ k1.1
  have x2 : X.cell? ⟨W.heap.size + 1, 0, none⟩ = some (.int .i64 1) := by rw [hX]; exact cell_alloc_keep _ k1.2
  have x3 : X.heap[W.heap.size + 1 + 1]? = some (.cells #[.func (.func 30) #[] #[.pointer (some ⟨W.heap.size, 0, none⟩), .pointer (some ⟨W.heap.size + 1, 0, none⟩)], .func (.func 29) #[] #[.pointer (some ⟨bt, 0, none⟩), .pointer (some ⟨ba, 0, none⟩)]] 51 (0, 0)) := by
    rw [hX]
    have := block_alloc_new ((W.alloc (.cells #[.bool true] 4)).alloc (.cells #[.int .i64 1] 25)) (.cells #[.func (.func 30) #[] #[.pointer (some ⟨W.heap.size, 0, none⟩), .pointer (some ⟨W.heap.size + 1, 0, none⟩)], .func (.func 29) #[] #[.pointer (some ⟨bt, 0, none⟩), .pointer (some ⟨ba, 0, none⟩)]] 51)
    rw [World.size_alloc, World.size_alloc] at this
    exact this
  have hF := first_two (W.heap.size + 1 + 1) 30 29 _ _ 0 (thereE many x) X x3 enters30 enters29
    (fun W' hb => (is1_any _ _ true 1 W' ((hb.cell (p := ⟨W.heap.size, 0, none⟩) (by show W.heap.size < _; omega)).trans x1) ((hb.cell (p := ⟨W.heap.size + 1, 0, none⟩) (by show W.heap.size + 1 < _; omega)).trans x2)).mono (by rintro r w' ⟨rfl, rfl⟩; exact ⟨rfl, Below.refl _ _⟩))
    (fun _ W' hb => in_any ba bt a h m many high x W' ((hA.later hXB).later hb) ((hb.cell (p := ⟨ba, 0, none⟩) (by show ba < _; omega)).trans ((hXB.cell (p := ⟨ba, 0, none⟩) lba).trans cba)) ((hb.cell (p := ⟨bt, 0, none⟩) (by show bt < _; omega)).trans ((hXB.cell (p := ⟨bt, 0, none⟩) lbt).trans cbt)))
  rw [if_pos rfl] at hF
  rw [hX] at hF
  have HX := Lib.hid hXB
  have HXs := Lib.hid hXs
  have HF := Lib.hid hF
  have HE := Lib.hid hX
  clear hF hXB hXs x1 x2 x3 k1 hX lba lbt hA
  go_enter Try.func28, Try.ntmps28
  go_wp2_with fail
  refine (none_any _ _ _ c3).mono ?_
  rintro r w1 ⟨rfl, rfl⟩
  go_wp2_with fail
  refine (is_any _ _ _).mono ?_
  rintro r w1 ⟨rfl, rfl⟩
  go_wp2_with fail
  refine HF.out.mono ?_
  rintro r w1 ⟨rfl, hb⟩
  rw [← HE.out] at hb
  have hb' := HX.out.trans (hb.mono HX.out.size)
  clear hb
  go_wp2
  go_ret
  exact ⟨rfl, hb'⟩

theorem there_any (a : Nat) (x : Int) (w : World) :
    Calls Try.prog 19 #[.pointer (some ⟨a, 0, none⟩), .int .i64 x] w fun r w' => r = .returned (.func (.func 28) #[] #[.pointer (some ⟨w.heap.size, 0, none⟩), .pointer (some ⟨w.heap.size + 1, 0, none⟩)]) ∧
      w' = (w.alloc (.cells #[.pointer (some ⟨a, 0, none⟩)] 24)).alloc (.cells #[.int .i64 x] 3) := by
  go_enter Try.func19, Try.ntmps19
  go_wp2
  go_ret
  exact ⟨rfl, rfl⟩
end Go.Proofs.Ytnaeiffaabeokaa
