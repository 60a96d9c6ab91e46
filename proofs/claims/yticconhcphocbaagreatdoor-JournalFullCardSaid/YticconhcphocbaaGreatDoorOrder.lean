/- A region that draws its order, by one order that is laid ahead: its checks are made once, by the kernel. -/
import Derived.Deep.RegionHeld
import Derived.Test.YticconhcphocbaaGreatDoorBase
namespace Go.Proofs.YticconhcphocbaaGreatDoor

section
variable {P : Program} {ops : Array Oper} {Q : Exit → Act → World → Prop} {S : World → Prop}

/-- May it be gone through in this order: true: taken ahead of all others; false: the only one that may come up. -/
def orderB (md : Region.Mode) (ops : Array Oper) : List (Bool × Nat) → Array Bool → Bool
  | [], listed => (Region.ready md ops listed).isEmpty
  | (true, i) :: r, listed => Region.free md ops listed i && (Region.ready md ops listed).contains i && (decide (i < ops.size) && orderB md ops r (listed.setIfInBounds i true))
  | (false, i) :: r, listed => (Region.ready md ops listed == [i]) && orderB md ops r (listed.setIfInBounds i true)

/-- The operations in that order. -/
def inOrder (P : Program) (ops : Array Oper) (Q : Exit → Act → World → Prop) (S : World → Prop) : List (Bool × Nat) → Act → World → Prop
  | [], a, w => Q .normal a w
  | (true, i) :: r, a, w => ∃ o v, ops[i]? = some o ∧ YieldsIf P ops S o v a ∧ inOrder P ops Q S r (a.put o.dst v) w
  | (false, i) :: r, a, w => ∃ o, ops[i]? = some o ∧ ∀ K : Act → World → Prop, Shut (∀ a w, S w → (S w → inOrder P ops Q S r a w) → K a w) → if Region.wanted o (yielded ops a.tmps) = true then Oper.wp P o a w K Q else K (a.put o.dst undef) w

theorem anyH_of_order {md : Region.Mode} (hs : Region.noSelect ops = true) (hQ : ∀ (c : _) (a : Act) (d : Option Tmp) (v : Value) (w : World), Q (.panic c) (a.put d v) w → Q (.panic c) a w) :
    ∀ (σ : List (Bool × Nat)) (listed : Array Bool) (a : Act) (w : World), orderB md ops σ listed = true → S w → inOrder P ops Q S σ a w → wpAnyH P md ops Q S σ.length listed a w
  | [], listed, a, w, hB, _, h => wpAnyH_done (by simpa [orderB] using hB) h _
  | (true, i) :: r, listed, a, w, hB, hS, h => by
    simp only [orderB, Bool.and_eq_true] at hB
    obtain ⟨⟨hf, hr⟩, _, hB'⟩ := hB
    obtain ⟨o, v, ho, hy, h'⟩ := h
    exact wpAnyH_take ho hs hf hr (fun c a w => hQ c a o.dst v w) hy hS (anyH_of_order hs hQ r _ _ w hB' hS h')
  | (false, i) :: r, listed, a, w, hB, hS, h => by
    simp only [orderB, Bool.and_eq_true, beq_iff_eq] at hB
    obtain ⟨hr, hB'⟩ := hB
    obtain ⟨o, ho, h'⟩ := h
    refine wpAnyH_ready hr (by simp) (AllReadyH.cons ho (fun K hK => h' K ?_) AllReadyH.nil)
    exact fun a w hS' hw => hK.out a w hS' (fun hS2 => anyH_of_order hs hQ r _ a w hB' hS2 (hw hS2))

theorem wp_region_order {id : Nat} {a : Act} {w : World} {Q : Exit → Act → World → Prop} (S : World → Prop) (σ : List (Bool × Nat)) (hm : P.follows .mixedOrders = true)
    (hB : (Region.noSelect ops && (σ.length == ops.size) && orderB .any ops σ (Array.replicate ops.size false)) = true)
    (hQ : ∀ (c : _) (a : Act) (d : Option Tmp) (v : Value) (w : World), Q (.panic c) (a.put d v) w → Q (.panic c) a w)
    (hS : S w.drew) (h : inOrder P ops Q S σ a w.drew) : (Code.region id ops true).wp P Q a w := by
  simp only [Bool.and_eq_true, beq_iff_eq] at hB
  obtain ⟨⟨h1, h2⟩, h3⟩ := hB
  refine wp_region_held_drew hm hS (fun hS' => ?_)
  rw [← h2]
  exact anyH_of_order h1 hQ σ _ a w.drew (by rw [h2]; exact h3) hS' h

theorem order_take {i : Nat} {r : List (Bool × Nat)} {o : Oper} {v : Value} {a : Act} {w : World} (ho : ops[i]? = some o) (hy : YieldsIf P ops S o v a) (h : inOrder P ops Q S r (a.put o.dst v) w) : inOrder P ops Q S ((true, i) :: r) a w := ⟨o, v, ho, hy, h⟩
theorem order_do {i : Nat} {r : List (Bool × Nat)} {o : Oper} {a : Act} {w : World} (ho : ops[i]? = some o)
    (h : ∀ K : Act → World → Prop, Shut (∀ a w, S w → (S w → inOrder P ops Q S r a w) → K a w) → if Region.wanted o (yielded ops a.tmps) = true then Oper.wp P o a w K Q else K (a.put o.dst undef) w) : inOrder P ops Q S ((false, i) :: r) a w := ⟨o, ho, h⟩
end
end Go.Proofs.YticconhcphocbaaGreatDoor
