/- What a round of a range over a function keeps: the blocks of Z. -/
import Derived.Test.YticconhcphocbaaGreatDoorRow
namespace Go.Proofs.YticconhcphocbaaGreatDoor
open Go.RowKit Go.Sort

def KpZ (Z : Nat → Prop) (W W' : World) : Prop := ∀ k cs t fr, Z k → W.heap[k]? = some (.cells cs t fr) → W'.heap[k]? = some (.cells cs t fr)
namespace KpZ
variable {Z S : Nat → Prop} {A B C W W' : World}
theorem refl (Z : Nat → Prop) (W : World) : KpZ Z W W := fun _ _ _ _ _ e => e
theorem t (h : KpZ Z A B) (k : KpZ Z B C) : KpZ Z A C := fun i cs t fr hi e => k i cs t fr hi (h i cs t fr hi e)
theorem put (W : World) (l : Nat) (o o' : Obj) (hl : W.heap[l]? = some o) (ho : o.isCells = false) : KpZ Z W (W.putObj l o') := fun k cs t fr _ e => by
  have hne : k ≠ l := by rintro rfl; rw [e] at hl; cases hl; simp [Obj.isCells] at ho
  show (W.heap.setIfInBounds l o')[k]? = _
  rw [Array.getElem?_setIfInBounds_ne (Ne.symm hne)]
  exact e
theorem below (h : Below W.heap.size W W') : KpZ Z W W' := fun _ _ _ _ _ e => (h.block _ (lt_of_block e)).trans e
theorem chg (h : Chg S W W') (hS : ∀ k, k < W.heap.size → S k → ¬ Z k) : KpZ Z W W' := fun k _ _ _ hz e => (h.block k (lt_of_block e) (fun hs => hS k (lt_of_block e) hs hz)).trans e
theorem belowZ {n : Nat} (h : Below n W W') (hn : ∀ k, Z k → k < n) : KpZ Z W W' := fun k _ _ _ hz e => (h.block k (hn k hz)).trans e
theorem cell (h : KpZ Z A B) {p : Addr} {v : Value} (hp : Z p.block) (e : A.cell? p = some v) : B.cell? p = some v := by
  have hk : ∃ cs t fr, A.heap[p.block]? = some (.cells cs t fr) := by
    unfold World.cell? at e
    split at e
    · exact ⟨_, _, _, by assumption⟩
    · cases e
  obtain ⟨cs, t, fr, hk⟩ := hk
  exact (World.cell?_of_block ((h _ _ _ _ hp hk).trans hk.symm)).trans e
end KpZ
theorem Rw.kp {Z Z' : Nat → Prop} {w w' : World} {size n : Nat} {s : Value} {xs : List Value} (h : Rw Z w size s n xs) (hk : KpZ Z' w w') (hz : ∀ k, Z k → Z' k) : Rw Z w' size s n xs :=
  ⟨h.1, h.2.imp id fun ⟨b, off, c, e, hc, z, k⟩ => ⟨b, off, c, e, hc, z, fun j u hj => hk.cell (hz b z) (k j u hj)⟩⟩
end Go.Proofs.YticconhcphocbaaGreatDoor
