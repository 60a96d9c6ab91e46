/- Arenas in a zone of blocks: each call's contract, and the walk of works. -/
import Derived.Test.YtnaeiffaabeokaaTop2
namespace Go.Proofs.Ytnaeiffaabeokaa
open Go.RowKit Go.Sort

/-- Block a is an arena all of whose blocks lie in Z. -/
def Ar (Z : Nat → Prop) (w : World) (a : Nat) (many high : Int) (n : Nat) (T : List Int) : Prop :=
  ∃ h m g d, IsArena w a h m g many high d T ∧ Inv many high d T ∧ d.size ≤ n ∧ ∀ k, Foot a h m g k → Z k

theorem Ar.keep {Z S : Nat → Prop} {w w' : World} {a : Nat} {many high : Int} {n : Nat} {T : List Int} (H : Ar Z w a many high n T) (hc : Chg S w w') (hS : ∀ k, k < w.heap.size → Z k → ¬ S k) : Ar Z w' a many high n T := by
  obtain ⟨h, m, g, d, hA, hI, hn, hZ⟩ := H
  have hlt : ∀ k, Foot a h m g k → k < w.heap.size := by
    rintro k (rfl | rfl | rfl | e)
    · exact lt_of_block hA.base
    · exact hA.heap.lt.1
    · exact HasMap.lt hA.set
    · exact hA.heap.lt.2 k e
  exact ⟨h, m, g, d, hA.keep hc (fun k hk => hS k (hlt k hk) (hZ k hk)), hI, hn, hZ⟩
theorem Ar.later {Z : Nat → Prop} {w w' : World} {a : Nat} {many high : Int} {n : Nat} {T : List Int} (H : Ar Z w a many high n T) (hb : Below w.heap.size w w') : Ar Z w' a many high n T :=
  H.keep (Chg.of_below (S := fun _ => False) hb) (fun _ _ _ h => h)
theorem Ar.mono {Z Z' : Nat → Prop} {w : World} {a : Nat} {many high : Int} {n n' : Nat} {T : List Int} (H : Ar Z w a many high n T) (hz : ∀ k, Z k → Z' k) (hn : n ≤ n') : Ar Z' w a many high n' T := by
  obtain ⟨h, m, g, d, hA, hI, hs, hZ⟩ := H
  exact ⟨h, m, g, d, hA, hI, Nat.le_trans hs hn, fun k hk => hz k (hZ k hk)⟩
theorem Ar.inv {Z : Nat → Prop} {w : World} {a : Nat} {many high : Int} {n : Nat} {T : List Int} (H : Ar Z w a many high n T) : T.Nodup ∧ high ≤ many ∧ 0 ≤ high ∧ ∀ x ∈ T, 0 ≤ x ∧ x < high := by
  obtain ⟨h, m, g, d, hA, hI, hs, hZ⟩ := H
  exact ⟨hI.nd, hI.h1, hI.h0, hI.inT⟩
theorem Ar.lt {Z : Nat → Prop} {w : World} {a : Nat} {many high : Int} {n : Nat} {T : List Int} (H : Ar Z w a many high n T) : a < w.heap.size := by
  obtain ⟨h, m, g, d, hA, hI, hs, hZ⟩ := H
  exact lt_of_block hA.base

theorem new_ar (Z : Nat → Prop) (many : Int) (h0 : 0 ≤ many) (h1 : many ≤ 65536) (w : World) (hZ : ∀ k, w.heap.size ≤ k → Z k) :
    Calls Try.prog 5 #[.int .i64 many] w fun e w' => ∃ a, e = .returned (.tuple #[.pointer (some ⟨a, 0, none⟩), .int .i64 0]) ∧ Ar Z w' a many 0 0 [] ∧ Below w.heap.size w w' ∧ w.heap.size ≤ a := by
  refine (new_walk many h0 h1 w).mono ?_
  rintro e w' ⟨a, h, m, rfl, hA, hb, hF⟩
  exact ⟨a, rfl, ⟨h, m, none, #[], hA, Inv.start many h0 h1, Nat.le_refl _, fun k hk => hZ k (hF k hk)⟩, hb, hF a (.inl rfl)⟩

theorem take_ar (Z : Nat → Prop) (a : Nat) (many high : Int) (n : Nat) (T : List Int) (w : World) (H : Ar Z w a many high n T) (hn : n < 900000) (_hZ : ∀ k, w.heap.size ≤ k → Z k) :
    Calls Try.prog 8 #[.pointer (some ⟨a, 0, none⟩)] w fun e w' => Chg Z w w' ∧
      ((∃ p high', e = .returned (.tuple #[.int .i64 p, .int .i64 0]) ∧ p ∉ T ∧ 0 ≤ p ∧ p < many ∧ (∀ q, 0 ≤ q → q < p → q ∈ T) ∧ Ar Z w' a many high' n (T ++ [p]) ∧ ((high' = high ∧ p < high) ∨ (high' = high + 1 ∧ p = high))) ∨
       (e = .returned (.tuple #[.int .i64 0, .int .i64 210]) ∧ (∀ q, 0 ≤ q → q < many → q ∈ T) ∧ Ar Z w' a many high n T)) := by
  obtain ⟨h, m, g, d, hA, hI, hs, hz⟩ := H
  refine (take_walk a h m g many high d T w hA hI (by omega)).mono ?_
  rintro e w' ⟨hC, ⟨p, d', high', rfl, r1, r2, r3, r4, r5, r6, r7, r8⟩ | ⟨d', rfl, r1, r2, r3, r4⟩⟩
  · exact ⟨hC.mono (fun k _ => hz k), .inl ⟨p, high', rfl, r1, r2, r3, r4, ⟨h, m, g, d', r5, r6, by omega, hz⟩, r8⟩⟩
  · exact ⟨hC.mono (fun k _ => hz k), .inr ⟨rfl, r1, ⟨h, m, g, d', r2, r3, by omega, hz⟩⟩⟩

theorem give_ar (Z : Nat → Prop) (a : Nat) (many high x : Int) (n : Nat) (T : List Int) (w : World) (H : Ar Z w a many high n T) (hn : n < 900000) (hx : (Lit.int .i64 x).wf = true) (hZ : ∀ k, w.heap.size ≤ k → Z k) :
    Calls Try.prog 9 #[.pointer (some ⟨a, 0, none⟩), .int .i64 x] w fun e w' => e = .returned (.int .i64 (giveE many T x)) ∧ Chg Z w w' ∧
      ((giveE many T x ≠ 0 ∧ Ar Z w' a many high n T) ∨ (giveE many T x = 0 ∧ x ∈ T ∧ Ar Z w' a many high (n + 1) (T.filter fun y => !(y == x)))) := by
  obtain ⟨h, m, g, d, hA, hI, hs, hz⟩ := H
  refine (give_walk a h m g many high x d T w hA hI (by omega) hx).mono ?_
  rintro e w' ⟨rfl, hC, ⟨r1, r2⟩ | ⟨r1, r2, g', r3, r4, r5⟩⟩
  · exact ⟨rfl, hC.mono (fun k _ => hz k), .inl ⟨r1, h, m, g, d, r2, hI, hs, hz⟩⟩
  · refine ⟨rfl, hC.mono (fun k _ => hz k), .inr ⟨r1, r2, h, m, g', _, r3, r4, by rw [Hp.push_size]; omega, ?_⟩⟩
    rintro k (e | e | e | e)
    · exact hz k (.inl e)
    · exact hz k (.inr (.inl e))
    · exact hz k (.inr (.inr (.inl e)))
    · rcases r5 k e with e | e
      · exact hz k (.inr (.inr (.inr e)))
      · exact hZ k e

theorem claim_ar (Z : Nat → Prop) (a : Nat) (many high x : Int) (n : Nat) (T : List Int) (w : World) (H : Ar Z w a many high n T) (hm : many ≤ 30) (hn : n < 900000) (hx : (Lit.int .i64 x).wf = true) (hZ : ∀ k, w.heap.size ≤ k → Z k) :
    Calls Try.prog 11 #[.pointer (some ⟨a, 0, none⟩), .int .i64 x] w fun e w' => e = .returned (.int .i64 (claimE many T x)) ∧ Chg Z w w' ∧
      ((claimE many T x ≠ 0 ∧ Ar Z w' a many high n T) ∨ (claimE many T x = 0 ∧ x ∉ T ∧ ∃ high', Ar Z w' a many high' (n + 30) (T ++ [x]))) := by
  obtain ⟨h, m, g, d, hA, hI, hs, hz⟩ := H
  refine (claim_walk a h m g many high x d T w hA hI (by omega) hx).mono ?_
  rintro e w' ⟨rfl, hC, ⟨r1, r2⟩ | ⟨r1, r2, g', high', d', r3, r4, r5, r6⟩⟩
  · exact ⟨rfl, hC.mono (fun k _ => hz k), .inl ⟨r1, h, m, g, d, r2, hI, hs, hz⟩⟩
  · refine ⟨rfl, hC.mono (fun k _ => hz k), .inr ⟨r1, r2, high', h, m, g', d', r3, r4, ?_, ?_⟩⟩
    · have := r4.h1; omega
    rintro k (e | e | e | e)
    · exact hz k (.inl e)
    · exact hz k (.inr (.inl e))
    · exact hz k (.inr (.inr (.inl e)))
    · rcases r6 k e with e | e
      · exact hz k (.inr (.inr (.inr e)))
      · exact hZ k e

theorem copy_ar (Z Z' : Nat → Prop) (a : Nat) (many high : Int) (n : Nat) (T : List Int) (w : World) (H : Ar Z w a many high n T) (hn : n < 900000) (hZ : ∀ k, w.heap.size ≤ k → Z' k) :
    Calls Try.prog 7 #[.pointer (some ⟨a, 0, none⟩)] w fun e w' => ∃ b, e = .returned (.pointer (some ⟨b, 0, none⟩)) ∧ Ar Z' w' b many high n T ∧ Below w.heap.size w w' ∧ w.heap.size ≤ b := by
  obtain ⟨h, m, g, d, hA, hI, hs, hz⟩ := H
  refine (copy_walk a h m g many high d T w hA (by omega)).mono ?_
  rintro e w' ⟨a', h', m', g', rfl, hA', hb, hF⟩
  exact ⟨a', rfl, ⟨h', m', g', d, hA', hI, hs, fun k hk => hZ k (hF k hk)⟩, hb, hF a' (.inl rfl)⟩

theorem same_ar (Z Z' : Nat → Prop) (a b : Nat) (many high high' : Int) (n n' : Nat) (T U : List Int) (w : World) (H : Ar Z w a many high n T) (H' : Ar Z' w b many high' n' U) :
    Calls Try.prog 10 #[.pointer (some ⟨a, 0, none⟩), .pointer (some ⟨b, 0, none⟩)] w fun e w' => e = .returned (.bool (sameE T U)) ∧ Below w.heap.size w w' := by
  obtain ⟨h, m, g, d, hA, hI, hs, hz⟩ := H
  obtain ⟨h', m', g', d', hA', hI', hs', hz'⟩ := H'
  exact same_walk a h m g many high d T b h' m' g' high' d' U w hA hA'

theorem len_ar (Z : Nat → Prop) (a : Nat) (many high : Int) (n : Nat) (T : List Int) (w : World) (H : Ar Z w a many high n T) :
    Calls Try.prog 12 #[.pointer (some ⟨a, 0, none⟩)] w fun e w' => e = .returned (.int .i64 T.length) ∧ w = w' := by
  obtain ⟨h, m, g, d, hA, hI, hs, hz⟩ := H
  exact len_walk a h m g many high d T w hA

theorem top_ar (Z : Nat → Prop) (a : Nat) (many high : Int) (n : Nat) (T : List Int) (w : World) (H : Ar Z w a many high n T) :
    Calls Try.prog 13 #[.pointer (some ⟨a, 0, none⟩)] w fun e w' => ∃ t, e = .returned (.int .i64 t) ∧ TopIs T t ∧ Below w.heap.size w w' := by
  obtain ⟨h, m, g, d, hA, hI, hs, hz⟩ := H
  refine top_any a h m g many high d T w hA ?_ ?_
  · have := hI.len; omega
  · intro x hx
    have := hI.inT x hx; have := hI.h1; have := hI.h2
    omega
end Go.Proofs.Ytnaeiffaabeokaa
