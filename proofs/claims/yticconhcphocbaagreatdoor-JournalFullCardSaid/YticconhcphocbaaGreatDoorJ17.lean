/- Moving the last group. -/
import Derived.Test.YticconhcphocbaaGreatDoorJ16
namespace Go.Proofs.YticconhcphocbaaGreatDoor
open Go.RowKit Go.Sort Go.Shelf

theorem past43_any (jb : Nat) (w : World) : Calls Tryz.prog 43 #[.pointer (some ⟨jb, 0, none⟩)] w fun e w' => e = .returned (.pointer (some ⟨jb, 2, none⟩)) ∧ w = w' := by
  go_enter Tryz.func43, Tryz.ntmps43
  go_wp2
  go_ret
  exact ⟨rfl, rfl⟩
theorem past44_any (jb : Nat) (w : World) : Calls Tryz.prog 44 #[.pointer (some ⟨jb, 0, none⟩)] w fun e w' => e = .returned (.pointer (some ⟨jb, 3, none⟩)) ∧ w = w' := by
  go_enter Tryz.func44, Tryz.ntmps44
  go_wp2
  go_ret
  exact ⟨rfl, rfl⟩

theorem back_empty (jb : Nat) (s : Value) (p : Option Addr) (c : Nat) (u : Value) (w : World) (h : JB w jb s false (.slice p 0 c) (u) true) :
    Calls Tryz.prog 42 #[.pointer (some ⟨jb, 0, none⟩), .func (.func 43) #[.pointer (some ⟨jb, 0, none⟩)] #[], .func (.func 44) #[.pointer (some ⟨jb, 0, none⟩)] #[]] w fun e w' => e = .returned (.tuple #[.slice none 0 0, .int .i64 342]) ∧ Below w.heap.size w w' := by
  have HN := Lib.hid (none_any jb s _ _ false true w h)
  obtain ⟨c0, c1, c2, c3, c4⟩ := h.c
  have eF := enters_of Tryz.func43 (by kernel_rfl) rfl
  have eT := enters_of Tryz.func44 (by kernel_rfl) rfl
  have HF := Lib.hid (fun X => past43_any jb X)
  have HT := Lib.hid (fun X => past44_any jb X)
  clear h
  go_enter Tryz.func42, Tryz.ntmps42
  go_wp2_with fail
  refine HN.out.mono ?_
  rintro e w1 ⟨rfl, rfl⟩
  go_wp2_with fail
  refine (HF.out _).mono ?_
  rintro e w1 ⟨rfl, rfl⟩
  go_wp2_with fail
  refine (HT.out _).mono ?_
  rintro e w1 ⟨rfl, rfl⟩
  go_wp2_with fail
  go_ret2
  exact ⟨rfl, Below.refl _ _⟩

theorem fore_empty (jb : Nat) (s : Value) (p : Option Addr) (c : Nat) (u : Value) (w : World) (h : JB w jb s false (u) (.slice p 0 c) true) :
    Calls Tryz.prog 42 #[.pointer (some ⟨jb, 0, none⟩), .func (.func 44) #[.pointer (some ⟨jb, 0, none⟩)] #[], .func (.func 43) #[.pointer (some ⟨jb, 0, none⟩)] #[]] w fun e w' => e = .returned (.tuple #[.slice none 0 0, .int .i64 342]) ∧ Below w.heap.size w w' := by
  have HN := Lib.hid (none_any jb s _ _ false true w h)
  obtain ⟨c0, c1, c2, c3, c4⟩ := h.c
  have eF := enters_of Tryz.func44 (by kernel_rfl) rfl
  have eT := enters_of Tryz.func43 (by kernel_rfl) rfl
  have HF := Lib.hid (fun X => past44_any jb X)
  have HT := Lib.hid (fun X => past43_any jb X)
  clear h
  go_enter Tryz.func42, Tryz.ntmps42
  go_wp2_with fail
  refine HN.out.mono ?_
  rintro e w1 ⟨rfl, rfl⟩
  go_wp2_with fail
  refine (HF.out _).mono ?_
  rintro e w1 ⟨rfl, rfl⟩
  go_wp2_with fail
  refine (HT.out _).mono ?_
  rintro e w1 ⟨rfl, rfl⟩
  go_wp2_with fail
  go_ret2
  exact ⟨rfl, Below.refl _ _⟩
end Go.Proofs.YticconhcphocbaaGreatDoor
