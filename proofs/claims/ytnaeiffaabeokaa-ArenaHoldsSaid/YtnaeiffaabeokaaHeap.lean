/- The heap's contracts: push (from its walk), what a row's rewriting does to a heap. -/
import Derived.Test.YtnaeiffaabeokaaPush
namespace Go.Proofs.Ytnaeiffaabeokaa
open Go.RowKit Go.Sort

theorem putCells_take (d2 : Array Int) (c : Array Value) (hc : d2.size ≤ c.size) : (putCells (Value.int .i64) 0 d2 c).toList.take d2.size = d2.toList.map In := by
  apply List.ext_getElem?
  intro k
  rw [List.getElem?_take]
  by_cases hk : k < d2.size
  · rw [if_pos hk]
    have hkc : k < c.size := by omega
    simp only [putCells, Array.toList_mapIdx, List.getElem?_mapIdx, Array.getElem?_toList, List.getElem?_map]
    rw [Array.getElem?_eq_getElem hkc, Array.getElem?_eq_getElem hk]
    simp [hk]
  · rw [if_neg hk]
    simp only [List.getElem?_map, Array.getElem?_toList]
    rw [Array.getElem?_eq_none (by omega)]
    rfl

/-- The row of a heap holds other numbers, as many. -/
theorem IsHeap.put {w : World} {h b cap : Nat} {d d2 : Array Int} (hh : w.heap[h]? = some (.cells #[.slice (some ⟨b, 0, none⟩) d.size cap] 42 (0, 0)))
    (ho : w.ownsRow 0 3 1 (.slice (some ⟨b, 0, none⟩) d.size cap) d.size (d.toList.map In)) (hsz : d2.size = d.size) : IsHeap (putRow (Value.int .i64) w b 0 d2) h (some b) d2 := by
  have H : IsHeap w h (some b) d := ⟨_, hh, ho, rfl⟩
  have hne : h ≠ b := fun e => H.ne (by rw [e])
  refine ⟨_, (block_mapBlock_other _ hne).trans hh, ?_, rfl⟩
  refine ⟨by simp, ?_⟩
  rcases ho.2 with ⟨e, _⟩ | ⟨g, cap', cur, e, h0, hg, h1, h2, h3, h4⟩
  · simp at e
  · simp only [Value.slice.injEq, Option.some.injEq, Addr.mk.injEq, true_and, and_true] at e
    obtain ⟨rfl, rfl⟩ := e
    refine .inr ⟨b, cap, putCells (Value.int .i64) 0 d2 cur, by rw [hsz], h0, block_mapBlock _ hg, by omega, h2, by simp [putCells]; omega, ?_⟩
    rw [Nat.mul_one]
    exact putCells_take d2 cur (by omega)

theorem push_any (h : Nat) (g : Option Nat) (d : Array Int) (x : Int) (w : World) (H : IsHeap w h g d) (hlen : d.size < 1048576) :
    Calls Try.prog 22 #[.pointer (some ⟨h, 0, none⟩), .int .i64 x] w fun e w' => e = .returned (.tuple #[]) ∧
      ∃ g', IsHeap w' h g' (Hp.push d x) ∧ Chg (fun k => k = h ∨ g = some k) w w' ∧ (∀ k, g' = some k → g = some k ∨ w.heap.size ≤ k) := by
  refine (push_walk h g d x w H hlen).mono ?_
  rintro e w' ⟨W1, b, cap, H1, hh, hc, hb, rfl, q, rfl⟩
  refine ⟨rfl, some b, ?_, ?_, ?_⟩
  · obtain ⟨v, hh1, ho, hv⟩ := H1
    rw [hh] at hh1
    simp at hh1
    subst hh1
    have hs : (d.push x).size = d.size + 1 := by simp
    have := IsHeap.put (w := W1) (h := h) (b := b) (cap := cap) (d := d.push x) (d2 := Hp.push d x) (by rw [hs]; exact hh) (by rw [hs] at ho ⊢; exact ho) (by rw [Hp.push_size, hs])
    exact this.drewN q
  · refine (Chg.drewN ?_ q)
    refine hc.putRow _ _ _ (fun hlt => ?_)
    rcases hb with hb | hb
    · exact .inr hb
    · omega
  · intro k hk
    simp only [Option.some.injEq] at hk
    subst hk
    exact hb
#print axioms push_any
end Go.Proofs.Ytnaeiffaabeokaa
