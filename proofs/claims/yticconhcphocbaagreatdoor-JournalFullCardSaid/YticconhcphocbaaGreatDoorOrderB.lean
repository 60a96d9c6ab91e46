/- A region that draws its order, by a tree of orders: at a fork either of two operations comes up. -/
import Derived.Test.YticconhcphocbaaGreatDoorOrderT
namespace Go.Proofs.YticconhcphocbaaGreatDoor

inductive Tree where
  | nil
  | take (i : Nat) (r : Tree)
  | step (i : Nat) (r : Tree)
  | two (i j : Nat) (ri rj : Tree)
def Tree.len : Tree → Nat
  | nil => 0
  | take _ r => r.len + 1
  | step _ r => r.len + 1
  | two _ _ ri _ => ri.len + 1

section
variable {P : Program} {ops : Array Oper} {md : Region.Mode} {Q : Exit → Act → World → Prop} {S : World → Prop}

def treeB (md : Region.Mode) (ops : Array Oper) (sk τ : List Nat) : Tree → Array Bool → Bool
  | .nil, listed => tailB md ops τ listed
  | .take i r, listed => Region.free md ops listed i && (Region.ready md ops listed).contains i && (!sk.contains i && (!τ.contains i && treeB md ops sk τ r (listed.setIfInBounds i true)))
  | .step i r, listed => (Region.ready md ops listed == [i]) && treeB md ops sk τ r (listed.setIfInBounds i true)
  | .two i j ri rj, listed => (Region.ready md ops listed == [i, j]) && ((ri.len == rj.len) && (treeB md ops sk τ ri (listed.setIfInBounds i true) && treeB md ops sk τ rj (listed.setIfInBounds j true)))
def inTree (P : Program) (ops : Array Oper) (Q : Exit → Act → World → Prop) (S : World → Prop) (τ : List Nat) : Tree → Act → World → Prop
  | .nil, a, w => inTail P ops Q τ a w
  | .take i r, a, w => ∃ o v, ops[i]? = some o ∧ YieldsIf P ops S o v a ∧ inTree P ops Q S τ r (a.put o.dst v) w
  | .step i r, a, w => ∃ o, ops[i]? = some o ∧ ∀ K : Act → World → Prop, Shut (∀ a w, S w → (S w → inTree P ops Q S τ r a w) → K a w) → if Region.wanted o (yielded ops a.tmps) = true then Oper.wp P o a w K Q else K (a.put o.dst undef) w
  | .two i j ri rj, a, w => (∃ o, ops[i]? = some o ∧ ∀ K : Act → World → Prop, Shut (∀ a w, S w → (S w → inTree P ops Q S τ ri a w) → K a w) → if Region.wanted o (yielded ops a.tmps) = true then Oper.wp P o a w K Q else K (a.put o.dst undef) w) ∧
      (∃ o, ops[j]? = some o ∧ ∀ K : Act → World → Prop, Shut (∀ a w, S w → (S w → inTree P ops Q S τ rj a w) → K a w) → if Region.wanted o (yielded ops a.tmps) = true then Oper.wp P o a w K Q else K (a.put o.dst undef) w)

theorem headS_of_tree {sk τ : List Nat} (hs : Region.noSelect ops = true) (hw : waitsB md ops sk τ = true) (hQ : ∀ (c : _) (a : Act) (d : Option Tmp) (v : Value) (w : World), Q (.panic c) (a.put d v) w → Q (.panic c) a w) :
    ∀ (σ : Tree) (listed : Array Bool) (a : Act) (w : World), Came md ops listed → treeB md ops sk τ σ listed = true → S w → inTree P ops Q S τ σ a w →
      headS P md ops Q S (fun listed a w => tailB md ops τ listed = true ∧ inTail P ops Q τ a w) σ.len listed a w
  | .nil, listed, a, w, _, hB, _, h => ⟨hB, h⟩
  | .take i r, listed, a, w, hc, hB, hS, h => by
    simp only [treeB, Bool.and_eq_true, List.contains_iff_mem, Bool.not_eq_true'] at hB
    obtain ⟨⟨hf, hr⟩, his, hit, hB'⟩ := hB
    obtain ⟨o, v, ho, hy, h'⟩ := h
    refine headS_first (sk := sk) (tl := τ) ho (Region.noSelect_spec hs) (fun c a w => hQ c a o.dst v w) hw (by simpa using his) (by simpa using hit) ?_ _ listed a w hc (Region.free_spec ho hf) hr hy hS (headS_of_tree hs hw hQ r _ _ w (hc.set hr) hB' hS h')
    rintro listed a w ⟨h1, _⟩ j hj
    cases τ with
    | nil => simp [tailB] at h1; rw [h1] at hj; cases hj
    | cons t τ =>
      simp only [tailB, Bool.and_eq_true, beq_iff_eq] at h1
      rw [h1.1] at hj
      cases List.mem_singleton.1 hj
      simp
  | .step i r, listed, a, w, hc, hB, hS, h => by
    simp only [treeB, Bool.and_eq_true, beq_iff_eq] at hB
    obtain ⟨hr, hB'⟩ := hB
    obtain ⟨o, ho, h'⟩ := h
    refine ⟨fun h0 => (by rw [hr] at h0; cases h0), fun j hj => ?_⟩
    have hj' := hj
    rw [hr] at hj
    cases List.mem_singleton.1 hj
    exact wpOp_step ho fun K' hK => h' K' fun a w hS' ha => hK a w ⟨hS', headS_of_tree hs hw hQ r _ a w (hc.set hj') hB' hS' (ha hS')⟩
  | .two i j ri rj, listed, a, w, hc, hB, hS, h => by
    simp only [treeB, Bool.and_eq_true, beq_iff_eq] at hB
    obtain ⟨hr, hl, hBi, hBj⟩ := hB
    obtain ⟨⟨oi, hoi, hi⟩, ⟨oj, hoj, hj⟩⟩ := h
    refine ⟨fun h0 => (by rw [hr] at h0; cases h0), fun k hk => ?_⟩
    have hk' := hk
    rw [hr] at hk
    rcases List.mem_cons.1 hk with rfl | hk
    · exact wpOp_step hoi fun K' hK => hi K' fun a w hS' ha => hK a w ⟨hS', headS_of_tree hs hw hQ ri _ a w (hc.set hk') hBi hS' (ha hS')⟩
    · cases List.mem_singleton.1 hk
      exact wpOp_step hoj fun K' hK => hj K' fun a w hS' ha => hK a w ⟨hS', by
        show headS _ _ _ _ _ _ ri.len _ a w
        rw [hl]
        exact headS_of_tree hs hw hQ rj _ a w (hc.set hk') hBj hS' (ha hS')⟩

theorem wp_region_tree {id : Nat} {a : Act} {w : World} (S : World → Prop) (π : List Nat) (σ : Tree) (τ : List Nat) (hm : P.follows .mixedOrders = true)
    (hB : (Region.noSelect ops && (π.length + (σ.len + τ.length) == ops.size) && waitsB .any ops π τ && preB .any ops (treeB .any ops π τ σ) π (Array.replicate ops.size false)) = true)
    (hQ : ∀ (c : _) (a : Act) (d : Option Tmp) (v : Value) (w : World), Q (.panic c) (a.put d v) w → Q (.panic c) a w)
    (h : inPre P ops (fun a w => S w ∧ inTree P ops Q S τ σ a w) π a w.drew) : (Code.region id ops true).wp P Q a w := by
  simp only [Bool.and_eq_true, beq_iff_eq] at hB
  obtain ⟨⟨⟨h1, h2⟩, h3⟩, h4⟩ := hB
  refine wp_region_any hm ?_
  rw [← h2]
  refine any_of_pre (N := fun a w => S w ∧ inTree P ops Q S τ σ a w) (rest := treeB .any ops π τ σ) h1 hQ ?_ π _ a w.drew ?_ (by rw [h2]; exact h4) h
  · rintro listed a w hc hr ⟨hS, h⟩
    refine any_of_headS (S := S) (L := fun listed a w => tailB .any ops τ listed = true ∧ inTail P ops Q τ a w) (fun listed a w h => any_of_tail τ listed a w h.1 h.2) _ _ _ _ ?_
    exact headS_of_tree h1 h3 hQ σ _ a w hc hr hS h
  · intro j o hj hl
    rcases Nat.lt_or_ge j ops.size with h' | h'
    · simp [h2, h'] at hl
    · simp [h2, h'] at hl

theorem tree_take {τ : List Nat} {i : Nat} {r : Tree} {o : Oper} {v : Value} {a : Act} {w : World} (ho : ops[i]? = some o) (hy : YieldsIf P ops S o v a) (h : inTree P ops Q S τ r (a.put o.dst v) w) : inTree P ops Q S τ (.take i r) a w := ⟨o, v, ho, hy, h⟩
theorem tree_do {τ : List Nat} {i : Nat} {r : Tree} {o : Oper} {a : Act} {w : World} (ho : ops[i]? = some o)
    (h : ∀ K : Act → World → Prop, Shut (∀ a w, S w → (S w → inTree P ops Q S τ r a w) → K a w) → if Region.wanted o (yielded ops a.tmps) = true then Oper.wp P o a w K Q else K (a.put o.dst undef) w) : inTree P ops Q S τ (.step i r) a w := ⟨o, ho, h⟩
theorem tree_two {τ : List Nat} {i j : Nat} {ri rj : Tree} {oi oj : Oper} {a : Act} {w : World} (hoi : ops[i]? = some oi) (hoj : ops[j]? = some oj)
    (hi : ∀ K : Act → World → Prop, Shut (∀ a w, S w → (S w → inTree P ops Q S τ ri a w) → K a w) → if Region.wanted oi (yielded ops a.tmps) = true then Oper.wp P oi a w K Q else K (a.put oi.dst undef) w)
    (hj : ∀ K : Act → World → Prop, Shut (∀ a w, S w → (S w → inTree P ops Q S τ rj a w) → K a w) → if Region.wanted oj (yielded ops a.tmps) = true then Oper.wp P oj a w K Q else K (a.put oj.dst undef) w) : inTree P ops Q S τ (.two i j ri rj) a w := ⟨⟨oi, hoi, hi⟩, ⟨oj, hoj, hj⟩⟩
end
end Go.Proofs.YticconhcphocbaaGreatDoor
