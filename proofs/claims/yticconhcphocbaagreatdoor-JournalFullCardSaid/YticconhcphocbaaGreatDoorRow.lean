/- Rows in memory: a slice and its cells. -/
import Derived.Test.YticconhcphocbaaGreatDoorExt
namespace Go.Proofs.YticconhcphocbaaGreatDoor
open Go.RowKit Go.Sort

/-- A slice of n elements of so many cells, which hold xs; its block is of Z. -/
def Rw (Z : Nat → Prop) (w : World) (size : Nat) (s : Value) (n : Nat) (xs : List Value) : Prop :=
  xs.length = n * size ∧ ((n = 0 ∧ ∃ p c, s = .slice p 0 c) ∨ ∃ b off c, s = .slice (some ⟨b, off, none⟩) n c ∧ n ≤ c ∧ Z b ∧ ∀ j u, xs[j]? = some u → w.cell? ⟨b, off + j, none⟩ = some u)
namespace Rw
variable {Z Z' S : Nat → Prop} {w w' : World} {size n : Nat} {s : Value} {xs : List Value}
theorem mono (h : Rw Z w size s n xs) (hz : ∀ k, Z k → Z' k) : Rw Z' w size s n xs := ⟨h.1, h.2.imp id fun ⟨b, off, c, e, hc, z, k⟩ => ⟨b, off, c, e, hc, hz b z, k⟩⟩
theorem keep (h : Rw Z w size s n xs) (hC : Chg S w w') (hS : ∀ k, Z k → ¬ S k) : Rw Z w' size s n xs :=
  ⟨h.1, h.2.imp id fun ⟨b, off, c, e, hc, z, k⟩ => ⟨b, off, c, e, hc, z, fun j u hj => by
    have hcell := k j u hj
    exact (World.cell?_of_block (w := w) (hC.block b (World.block_lt_of_cell? w _ hcell) (hS b z))).trans hcell⟩⟩
theorem later (h : Rw Z w size s n xs) (hb : Below w.heap.size w w') : Rw Z w' size s n xs := h.keep (Chg.of_below (S := fun _ => False) hb) (fun _ _ h => h)
theorem slice (h : Rw Z w size s n xs) : ∃ p c, s = .slice p n c := by
  rcases h.2 with ⟨rfl, p, c, rfl⟩ | ⟨b, off, c, rfl, _⟩
  · exact ⟨p, c, rfl⟩
  · exact ⟨_, c, rfl⟩
theorem one (h : Rw Z w size s n xs) : s.oneCell' = true := by
  obtain ⟨p, c, rfl⟩ := h.slice
  rfl
theorem at_ (h : Rw Z w size s n xs) {i : Nat} (hi : i < n) : ∃ b off c, s = .slice (some ⟨b, off, none⟩) n c ∧ n ≤ c ∧ Z b ∧ ∀ k, k < size → ∃ u, xs[i * size + k]? = some u ∧ w.cell? ⟨b, off + i * size + k, none⟩ = some u := by
  rcases h.2 with ⟨rfl, _⟩ | ⟨b, off, c, e, hc, z, k⟩
  · omega
  · refine ⟨b, off, c, e, hc, z, fun j hj => ?_⟩
    have hl : i * size + j < xs.length := by
      rw [h.1]
      calc i * size + j < i * size + size := by omega
        _ = (i + 1) * size := by rw [Nat.add_mul, Nat.one_mul]
        _ ≤ n * size := Nat.mul_le_mul_right _ hi
    exact ⟨_, List.getElem?_eq_getElem hl, by rw [Nat.add_assoc]; exact k _ _ (List.getElem?_eq_getElem hl)⟩
theorem nil (Z : Nat → Prop) (w : World) (size : Nat) : Rw Z w size (.slice none 0 0) 0 [] := ⟨by simp, .inl ⟨rfl, none, 0, rfl⟩⟩
theorem zero (p : Option Addr) (c : Nat) (Z : Nat → Prop) (w : World) (size : Nat) : Rw Z w size (.slice p 0 c) 0 [] := ⟨by simp, .inl ⟨rfl, p, c, rfl⟩⟩
theorem nil_xs (h : Rw Z w size s 0 xs) : xs = [] := List.length_eq_zero_iff.1 (by simpa using h.1)
theorem of_own {B : Nat} {e : TypeId} (h : w.ownsRow B e size s n xs) (hs : 0 < size) : Rw (fun k => B ≤ k ∧ k < w.heap.size) w size s n xs := by
  refine ⟨h.1, ?_⟩
  rcases h.2 with ⟨rfl, hx⟩ | ⟨g, cap, cur, rfl, hg, hk, hn, hc, hcs, ht⟩
  · left
    have := h.1
    rw [hx] at this
    have hn : n = 0 := by
      rcases Nat.eq_zero_or_pos n with e | e
      · exact e
      · have := Nat.mul_pos e hs; simp at *; omega
    subst hn
    exact ⟨rfl, none, 0, rfl⟩
  · right
    refine ⟨g, 0, cap, rfl, hn, ⟨hg, lt_of_block hk⟩, fun j u hj => ?_⟩
    rw [Nat.zero_add]
    have hj' : j < n * size := by rw [← h.1]; exact (List.getElem?_eq_some_iff.1 hj).1
    rw [World.ownsRow.cellAt h j hj']
    exact hj
end Rw
end Go.Proofs.YticconhcphocbaaGreatDoor
