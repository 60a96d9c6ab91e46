/- The journal's small functions: none, New, num, one, Begin, shut, Len, Open. -/
import Derived.Test.YticconhcphocbaaGreatDoorStep
import Derived.Test.YticconhcphocbaaGreatDoorGoto
namespace Go.Proofs.YticconhcphocbaaGreatDoor
open Go.RowKit Go.Sort

/-- A journal's cells. -/
def JB (w : World) (jb : Nat) (s : Value) (op : Bool) (d u : Value) (th : Bool) : Prop := w.heap[jb]? = some (.cells #[s, .bool op, d, u, .bool th] 63 (0, 0))
theorem JB.later {w w' : World} {jb : Nat} {s d u : Value} {op th : Bool} (h : JB w jb s op d u th) (hb : Below w.heap.size w w') : JB w' jb s op d u th := (hb.block jb (lt_of_block h)).trans h
theorem JB.keep {S : Nat → Prop} {w w' : World} {jb : Nat} {s d u : Value} {op th : Bool} (h : JB w jb s op d u th) (hC : Chg S w w') (hS : ¬ S jb) : JB w' jb s op d u th := hC.keep h hS
theorem JB.lt {w : World} {jb : Nat} {s d u : Value} {op th : Bool} (h : JB w jb s op d u th) : jb < w.heap.size := lt_of_block h
theorem JB.c {w : World} {jb : Nat} {s d u : Value} {op th : Bool} (h : JB w jb s op d u th) : w.cell? ⟨jb, 0, none⟩ = some s ∧ w.cell? ⟨jb, 1, none⟩ = some (.bool op) ∧ w.cell? ⟨jb, 2, none⟩ = some d ∧ w.cell? ⟨jb, 3, none⟩ = some u ∧ w.cell? ⟨jb, 4, none⟩ = some (.bool th) :=
  ⟨cell_of h rfl, cell_of h rfl, cell_of h rfl, cell_of h rfl, cell_of h rfl⟩
theorem JB.f {w : World} {jb o : Nat} {s d u : Value} {op th : Bool} (h : JB w jb s op d u th) : w.frozen? ⟨jb, o, none⟩ = false := free_of h
theorem JB.set {w : World} {jb : Nat} {s d u : Value} {op th : Bool} (h : JB w jb s op d u th) (o : Nat) (x : Value) : (w.setCell ⟨jb, o, none⟩ x).heap[jb]? = some (.cells (#[s, .bool op, d, u, .bool th].setIfInBounds o x) 63 (0, 0)) := block_setCell x h

theorem none_any (jb : Nat) (s d u : Value) (op th : Bool) (w : World) (h : JB w jb s op d u th) : Calls Tryz.prog 27 #[.pointer (some ⟨jb, 0, none⟩)] w fun e w' => e = .returned (.bool (!th)) ∧ w = w' := by
  obtain ⟨c0, c1, c2, c3, c4⟩ := h.c
  go_enter Tryz.func27, Tryz.ntmps27
  go_wp2
  go_ret
  exact ⟨rfl, rfl⟩
theorem none_nil (w : World) : Calls Tryz.prog 27 #[.pointer none] w fun e w' => e = .returned (.bool true) ∧ w = w' := by
  go_enter Tryz.func27, Tryz.ntmps27
  go_wp2
  go_ret
  exact ⟨rfl, rfl⟩
theorem new_any (w : World) : Calls Tryz.prog 7 #[] w fun e w' => e = .returned (.pointer (some ⟨w.heap.size, 0, none⟩)) ∧ JB w' w.heap.size (.slice none 0 0) false (.slice none 0 0) (.slice none 0 0) true ∧ Below w.heap.size w w' := by
  go_enter Tryz.func7, Tryz.ntmps7
  go_wp2
  go_ret
  exact ⟨rfl, block_alloc_new w _, (Below.refl _ w).alloc (Nat.le_refl _) _⟩
theorem num_any (x : Int) (w : World) : Calls Tryz.prog 9 #[.int .i64 x] w fun e w' => e = .returned (.int .i64 x) ∧ w = w' := by
  go_enter Tryz.func9, Tryz.ntmps9
  go_wp2
  go_ret
  exact ⟨rfl, rfl⟩
/-- A segment as an object's cells. -/
def oneV (id : Int) : Array Value := #[Ii id, Ii 0, .bool true, Ii id, Ii 0, Ii id, Ii 1, .slice none 0 0]
theorem one_any (id : Int) (w : World) : Calls Tryz.prog 11 #[.int .i64 id] w fun e w' => e = .returned (.agg (oneV id)) ∧ Below w.heap.size w w' := by
  go_enter Tryz.func11, Tryz.ntmps11
  go_wp2
  exact bodyPost_ret (v := .agg (oneV id)) (by simp [results, Tryz.results11, go_sem, oneV]) rfl ⟨rfl, (Below.refl _ w).alloc (Nat.le_refl _) _⟩

theorem JB.set2 {w : World} {jb : Nat} {s d u : Value} {op th : Bool} (h : JB w jb s op d u th) (s' : Value) (op' : Bool) : JB ((w.setCell ⟨jb, 0, none⟩ s').setCell ⟨jb, 1, none⟩ (.bool op')) jb s' op' d u th := by
  have h1 := block_setCell (b := jb) (o := 0) s' h
  have h2 := block_setCell (b := jb) (o := 1) (.bool op') h1
  exact h2

/-- What Begin does. -/
theorem begin_any (jb : Nat) (s d u : Value) (w : World) (h : JB w jb s false d u true) : Calls Tryz.prog 8 #[.pointer (some ⟨jb, 0, none⟩)] w fun e w' => e = .returned (.int .i64 0) ∧ JB w' jb (.slice none 0 0) true d u true ∧ Chg (fun k => k = jb) w w' := by
  obtain ⟨c0, c1, c2, c3, c4⟩ := h.c
  have f0 := h.f (o := 0)
  have f1 := h.f (o := 1)
  have HJ := Lib.hid h
  have HN := Lib.hid (none_any jb s d u false true w h)
  clear h
  go_enter Tryz.func8, Tryz.ntmps8
  go_wp2_with fail
  refine wp_scope_forward 0 rfl ?_
  go_wp2_with fail
  refine HN.out.mono ?_
  rintro e w1 ⟨rfl, rfl⟩
  go_wp2
  rw [jump_ret]
  go_ret
  exact ⟨rfl, HJ.out.set2 _ _, ((Chg.refl (fun k => k = jb) w).setCell (p := ⟨jb, 0, none⟩) (fun _ => rfl) _).setCell (p := ⟨jb, 1, none⟩) (fun _ => rfl) _⟩
theorem begin_open (jb : Nat) (s d u : Value) (w : World) (h : JB w jb s true d u true) : Calls Tryz.prog 8 #[.pointer (some ⟨jb, 0, none⟩)] w fun e w' => e = .returned (.int .i64 340) ∧ w = w' := by
  obtain ⟨c0, c1, c2, c3, c4⟩ := h.c
  have HN := Lib.hid (none_any jb s d u true true w h)
  clear h
  go_enter Tryz.func8, Tryz.ntmps8
  go_wp2_with fail
  refine wp_scope_forward 0 rfl ?_
  go_wp2_with fail
  refine HN.out.mono ?_
  rintro e w1 ⟨rfl, rfl⟩
  go_wp2
  refine wp_goto ?_
  simp only [Exit.then]
  refine jump_goto ?_
  go_wp2
  rw [nogo_ret]
  go_ret
  exact ⟨rfl, rfl⟩
/-- What shut does. -/
theorem shut_open (jb : Nat) (s d u : Value) (w : World) (h : JB w jb s true d u true) : Calls Tryz.prog 31 #[.pointer (some ⟨jb, 0, none⟩)] w fun e w' => e = .returned (.tuple #[s, .int .i64 0]) ∧ JB w' jb (.slice none 0 0) false d u true ∧ Chg (fun k => k = jb) w w' := by
  obtain ⟨c0, c1, c2, c3, c4⟩ := h.c
  have f0 := h.f (o := 0)
  have f1 := h.f (o := 1)
  have HJ := Lib.hid h
  have HN := Lib.hid (none_any jb s d u true true w h)
  clear h
  go_enter Tryz.func31, Tryz.ntmps31
  go_wp2_with fail
  refine HN.out.mono ?_
  rintro e w1 ⟨rfl, rfl⟩
  go_wp2
  go_ret2
  exact ⟨rfl, HJ.out.set2 _ _, ((Chg.refl (fun k => k = jb) w).setCell (p := ⟨jb, 0, none⟩) (fun _ => rfl) _).setCell (p := ⟨jb, 1, none⟩) (fun _ => rfl) _⟩
theorem shut_shut (jb : Nat) (s d u : Value) (w : World) (h : JB w jb s false d u true) : Calls Tryz.prog 31 #[.pointer (some ⟨jb, 0, none⟩)] w fun e w' => e = .returned (.tuple #[.slice none 0 0, .int .i64 341]) ∧ w = w' := by
  obtain ⟨c0, c1, c2, c3, c4⟩ := h.c
  have HN := Lib.hid (none_any jb s d u false true w h)
  clear h
  go_enter Tryz.func31, Tryz.ntmps31
  go_wp2_with fail
  refine HN.out.mono ?_
  rintro e w1 ⟨rfl, rfl⟩
  go_wp2
  go_ret2
  exact ⟨rfl, rfl⟩
/-- What Len does. -/
theorem len_any (jb : Nat) (s : Value) (op : Bool) (p q : Option Addr) (n m c c' : Nat) (w : World) (h : JB w jb s op (.slice p n c) (.slice q m c') true) :
    Calls Tryz.prog 13 #[.pointer (some ⟨jb, 0, none⟩)] w fun e w' => e = .returned (.tuple #[.int .i64 n, .int .i64 m]) ∧ Below w.heap.size w w' := by
  obtain ⟨c0, c1, c2, c3, c4⟩ := h.c
  have HN := Lib.hid (none_any jb s _ _ op true w h)
  clear h
  go_enter Tryz.func13, Tryz.ntmps13
  go_wp2_with fail
  refine HN.out.mono ?_
  rintro e w1 ⟨rfl, rfl⟩
  go_wp2_with fail
  go_quiet (fail)
  go_wp2
  go_ret2
  exact ⟨rfl, below_drewN (Below.refl _ _) _⟩
end Go.Proofs.YticconhcphocbaaGreatDoor
