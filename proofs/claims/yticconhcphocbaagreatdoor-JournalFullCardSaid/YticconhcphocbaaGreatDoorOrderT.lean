/- A region that draws its order, by one order that is laid ahead, and behind it a tail of operations in one forced order: the tail may write what the head has read. -/
import Derived.Test.YticconhcphocbaaGreatDoorOrder
import Derived.StillTail
namespace Go.Proofs.YticconhcphocbaaGreatDoor

section
variable {P : Program} {ops : Array Oper} {md : Region.Mode} {Q : Exit → Act → World → Prop} {S : World → Prop}

/-- What waits, at one remove or more, for what is in l. -/
def blk (md : Region.Mode) (ops : Array Oper) : Nat → List Nat → List Nat
  | 0, l => l
  | k + 1, l => blk md ops k (l ++ (List.range ops.size).filter fun j => (ops[j]?.map fun o => o.after.any fun e => Region.binds md e && l.contains e.on).getD false)
/-- Each of the tail waits for each of the head. -/
def waitsB (md : Region.Mode) (ops : Array Oper) (sk tl : List Nat) : Bool :=
  (List.range ops.size).all fun i => (sk.contains i || tl.contains i) || tl.all fun t => (ops[t]?.map fun o => o.after.any fun e => Region.binds md e && (blk md ops 4 [i]).contains e.on).getD false

/-- Who has come up: what it waits for has. -/
def Came (md : Region.Mode) (ops : Array Oper) (listed : Array Bool) : Prop :=
  ∀ j o, ops[j]? = some o → listed.getD j false = true → ∀ e ∈ o.after, Region.binds md e = true → listed.getD e.on false = true

theorem Came.set {listed : Array Bool} {i : Nat} (h : Came md ops listed) (hr : i ∈ Region.ready md ops listed) : Came md ops (listed.setIfInBounds i true) := by
  intro j o hj hl e he hb
  by_cases hji : j = i
  · subst hji
    obtain ⟨_, o', ho', hall⟩ := mem_ready.1 hr
    rw [hj] at ho'; cases ho'
    exact getD_set_true (hall e he hb)
  · rw [getD_set_ne false (Ne.symm hji)] at hl
    exact getD_set_true (h j o hj hl e he hb)

theorem blk_unlisted {listed : Array Bool} (h : Came md ops listed) : ∀ (k : Nat) (l : List Nat), (∀ j ∈ l, listed.getD j false = false) → ∀ j ∈ blk md ops k l, listed.getD j false = false
  | 0, l, hl, j, hj => hl j hj
  | k + 1, l, hl, j, hj => by
    refine blk_unlisted h k _ ?_ j hj
    intro j' hj'
    rcases List.mem_append.1 hj' with h1 | h1
    · exact hl j' h1
    · obtain ⟨_, h2⟩ := List.mem_filter.1 h1
      cases ho : ops[j']? with
      | none => rw [ho] at h2; simp at h2
      | some o =>
        rw [ho] at h2
        simp only [Option.map_some, Option.getD_some] at h2
        obtain ⟨e, he, h3⟩ := Array.any_eq_true'.1 h2
        simp only [Bool.and_eq_true, List.contains_iff_mem] at h3
        cases hl' : listed.getD j' false with
        | false => rfl
        | true =>
          have := h j' o ho hl' e he h3.1
          rw [hl e.on h3.2] at this
          cases this

theorem waits {listed : Array Bool} {sk tl : List Nat} (hw : waitsB md ops sk tl = true) (h : Came md ops listed) {i t : Nat} (hi : i < ops.size) (his : i ∉ sk) (hit : i ∉ tl) (hun : listed.getD i false = false) (ht : t ∈ tl) : t ∉ Region.ready md ops listed := by
  intro hr
  unfold waitsB at hw
  rw [List.all_eq_true] at hw
  have h1 := hw i (List.mem_range.2 hi)
  simp only [Bool.or_eq_true, List.contains_iff_mem] at h1
  have h2 := (List.all_eq_true.1 (h1.resolve_left (fun h => h.elim his hit))) t ht
  obtain ⟨_, o, ho, hall⟩ := mem_ready.1 hr
  rw [ho] at h2
  simp only [Option.map_some, Option.getD_some] at h2
  obtain ⟨e, he, h3⟩ := Array.any_eq_true'.1 h2
  simp only [Bool.and_eq_true, List.contains_iff_mem] at h3
  have h4 := blk_unlisted h 4 [i] (by simpa using hun) e.on h3.2
  rw [hall e he h3.1] at h4
  cases h4

/-- f operations of the head, whichever is picked, S behind each; then L. -/
def headS (P : Program) (md : Region.Mode) (ops : Array Oper) (Q : Exit → Act → World → Prop) (S : World → Prop) (L : Array Bool → Act → World → Prop) : Nat → Array Bool → Act → World → Prop
  | 0, listed, a, w => L listed a w
  | f + 1, listed, a, w => Region.ready md ops listed ≠ [] ∧ ∀ i ∈ Region.ready md ops listed, wpOp P ops Q i (fun a' w' => S w' ∧ headS P md ops Q S L f (listed.setIfInBounds i true) a' w') a w

theorem any_of_headS {g : Nat} {L : Array Bool → Act → World → Prop} (hL : ∀ listed a w, L listed a w → wpAny P md ops Q g listed a w) :
    ∀ (f : Nat) (listed : Array Bool) (a : Act) (w : World), headS P md ops Q S L f listed a w → wpAny P md ops Q (f + g) listed a w
  | 0, listed, a, w, h => by rw [Nat.zero_add]; exact hL _ _ _ h
  | f + 1, listed, a, w, h => by
    rw [show f + 1 + g = (f + g) + 1 by omega]
    exact ⟨fun h0 => absurd h0 h.1, fun i hi => wpOp_mono (fun a' w' h' => any_of_headS hL f _ a' w' h'.2) (h.2 i hi)⟩

theorem headS_first {i : Nat} {oi : Oper} {v : Value} {sk tl : List Nat} {L : Array Bool → Act → World → Prop} (hi : ops[i]? = some oi) (hsel : ∀ (j : Nat) (o : Oper) cs b, ops[j]? = some o → o.op ≠ .select cs b)
    (hQ : ∀ c a w, Q (.panic c) (a.put oi.dst v) w → Q (.panic c) a w) (hw : waitsB md ops sk tl = true) (his : i ∉ sk) (hit : i ∉ tl) (hdone : ∀ listed a w, L listed a w → ∀ j ∈ Region.ready md ops listed, j ∈ tl) :
    ∀ (fuel : Nat) (listed : Array Bool) (a : Act) (w : World), Came md ops listed →
      (∀ j oj, ops[j]? = some oj → j ≠ i → listed.getD j true = false → (∀ e ∈ oj.after, Region.binds md e = true → e.on ≠ i) → oi.apart ops oj = true) →
      i ∈ Region.ready md ops listed → YieldsIf P ops S oi v a → S w →
      headS P md ops Q S L fuel (listed.setIfInBounds i true) (a.put oi.dst v) w → headS P md ops Q S L (fuel + 1) listed a w := by
  have hsz : i < ops.size := (Array.getElem?_eq_some_iff.1 hi).1
  intro fuel
  induction fuel with
  | zero =>
    intro listed a w hc _ hr hy hS H
    refine ⟨fun h => (by rw [h] at hr; cases hr), fun j hj => ?_⟩
    by_cases hji : j = i
    · subst hji; exact hy.wpOp hi hS ⟨hS, H⟩
    · have hjt := hdone _ _ _ H j (ready_mono hj hji)
      exact absurd hj (waits hw hc hsz his hit (getD_both (mem_ready.1 hr).1) hjt)
  | succ fuel ih =>
    intro listed a w hc hfree hr hy hS H
    refine ⟨fun h => (by rw [h] at hr; cases hr), fun j hj => ?_⟩
    by_cases hji : j = i
    · subst hji; exact hy.wpOp hi hS ⟨hS, H⟩
    · have h1 := H.2 j (ready_mono hj hji)
      obtain ⟨hjun, oj, hoj, hall⟩ := mem_ready.1 hj
      have hnot : ∀ e ∈ oj.after, Region.binds md e = true → e.on ≠ i := fun e he hb heq => by
        have h1 := hall e he hb
        rw [heq, getD_both (mem_ready.1 hr).1] at h1
        cases h1
      have h2 := wpOp_putIf hoj (hfree j oj hoj hji hjun hnot) (fun cs b => hsel i oi cs b hi) (fun cs b => hsel j oj cs b hoj) hQ hy h1
      have hfree' : ∀ k ok, ops[k]? = some ok → k ≠ i → (listed.setIfInBounds j true).getD k true = false →
          (∀ e ∈ ok.after, Region.binds md e = true → e.on ≠ i) → oi.apart ops ok = true := fun k ok hk hki hun hno => by
        refine hfree k ok hk hki ?_ hno
        by_cases hjk : j = k
        · subst hjk; exact hjun
        · rw [getD_set_ne true hjk] at hun; exact hun
      refine wpOp_mono (fun a' w' h3 => ⟨h3.2.1, ih (listed.setIfInBounds j true) a' w' (hc.set hj) hfree' (ready_mono hr (Ne.symm hji)) h3.1 h3.2.1 ?_⟩) h2
      rw [Array.setIfInBounds_comm _ _ hji]
      exact h3.2.2

def tailB (md : Region.Mode) (ops : Array Oper) : List Nat → Array Bool → Bool
  | [], listed => (Region.ready md ops listed).isEmpty
  | i :: r, listed => (Region.ready md ops listed == [i]) && tailB md ops r (listed.setIfInBounds i true)
def inTail (P : Program) (ops : Array Oper) (Q : Exit → Act → World → Prop) : List Nat → Act → World → Prop
  | [], a, w => Q .normal a w
  | i :: r, a, w => ∃ o, ops[i]? = some o ∧ ∀ K : Act → World → Prop, Shut (∀ a w, inTail P ops Q r a w → K a w) → if Region.wanted o (yielded ops a.tmps) = true then Oper.wp P o a w K Q else K (a.put o.dst undef) w
theorem any_of_tail : ∀ (τ : List Nat) (listed : Array Bool) (a : Act) (w : World), tailB md ops τ listed = true → inTail P ops Q τ a w → wpAny P md ops Q τ.length listed a w
  | [], listed, a, w, hB, h => ⟨by simpa [tailB] using hB, h⟩
  | i :: r, listed, a, w, hB, h => by
    simp only [tailB, Bool.and_eq_true, beq_iff_eq] at hB
    obtain ⟨hr, hB'⟩ := hB
    obtain ⟨o, ho, h'⟩ := h
    refine ⟨fun h0 => (by rw [hr] at h0; cases h0), fun j hj => ?_⟩
    rw [hr] at hj
    cases List.mem_singleton.1 hj
    exact wpOp_step ho fun K' hK => h' K' fun a w ha => hK a w (any_of_tail r _ a w hB' ha)

def orderTB (md : Region.Mode) (ops : Array Oper) (sk τ : List Nat) : List (Bool × Nat) → Array Bool → Bool
  | [], listed => tailB md ops τ listed
  | (true, i) :: r, listed => Region.free md ops listed i && (Region.ready md ops listed).contains i && (!sk.contains i && (!τ.contains i && orderTB md ops sk τ r (listed.setIfInBounds i true)))
  | (false, i) :: r, listed => (Region.ready md ops listed == [i]) && orderTB md ops sk τ r (listed.setIfInBounds i true)
def inOrderT (P : Program) (ops : Array Oper) (Q : Exit → Act → World → Prop) (S : World → Prop) (τ : List Nat) : List (Bool × Nat) → Act → World → Prop
  | [], a, w => inTail P ops Q τ a w
  | (true, i) :: r, a, w => ∃ o v, ops[i]? = some o ∧ YieldsIf P ops S o v a ∧ inOrderT P ops Q S τ r (a.put o.dst v) w
  | (false, i) :: r, a, w => ∃ o, ops[i]? = some o ∧ ∀ K : Act → World → Prop, Shut (∀ a w, S w → (S w → inOrderT P ops Q S τ r a w) → K a w) → if Region.wanted o (yielded ops a.tmps) = true then Oper.wp P o a w K Q else K (a.put o.dst undef) w

theorem headS_of_order {sk τ : List Nat} (hs : Region.noSelect ops = true) (hw : waitsB md ops sk τ = true) (hQ : ∀ (c : _) (a : Act) (d : Option Tmp) (v : Value) (w : World), Q (.panic c) (a.put d v) w → Q (.panic c) a w) :
    ∀ (σ : List (Bool × Nat)) (listed : Array Bool) (a : Act) (w : World), Came md ops listed → orderTB md ops sk τ σ listed = true → S w → inOrderT P ops Q S τ σ a w →
      headS P md ops Q S (fun listed a w => tailB md ops τ listed = true ∧ inTail P ops Q τ a w) σ.length listed a w
  | [], listed, a, w, _, hB, _, h => ⟨hB, h⟩
  | (true, i) :: r, listed, a, w, hc, hB, hS, h => by
    simp only [orderTB, Bool.and_eq_true, List.contains_iff_mem, Bool.not_eq_true'] at hB
    obtain ⟨⟨hf, hr⟩, his, hit, hB'⟩ := hB
    obtain ⟨o, v, ho, hy, h'⟩ := h
    refine headS_first (sk := sk) (tl := τ) ho (Region.noSelect_spec hs) (fun c a w => hQ c a o.dst v w) hw (by simpa using his) (by simpa using hit) ?_ _ listed a w hc (Region.free_spec ho hf) hr hy hS (headS_of_order hs hw hQ r _ _ w (hc.set hr) hB' hS h')
    rintro listed a w ⟨h1, _⟩ j hj
    cases τ with
    | nil => simp [tailB] at h1; rw [h1] at hj; cases hj
    | cons t τ =>
      simp only [tailB, Bool.and_eq_true, beq_iff_eq] at h1
      rw [h1.1] at hj
      cases List.mem_singleton.1 hj
      simp
  | (false, i) :: r, listed, a, w, hc, hB, hS, h => by
    simp only [orderTB, Bool.and_eq_true, beq_iff_eq] at hB
    obtain ⟨hr, hB'⟩ := hB
    obtain ⟨o, ho, h'⟩ := h
    refine ⟨fun h0 => (by rw [hr] at h0; cases h0), fun j hj => ?_⟩
    have hj' := hj
    rw [hr] at hj
    cases List.mem_singleton.1 hj
    exact wpOp_step ho fun K' hK => h' K' fun a w hS' ha => hK a w ⟨hS', headS_of_order hs hw hQ r _ a w (hc.set hj') hB' hS' (ha hS')⟩

theorem wp_region_orderT {id : Nat} {a : Act} {w : World} (S : World → Prop) (σ : List (Bool × Nat)) (τ : List Nat) (hm : P.follows .mixedOrders = true)
    (hB : (Region.noSelect ops && (σ.length + τ.length == ops.size) && waitsB .any ops [] τ && orderTB .any ops [] τ σ (Array.replicate ops.size false)) = true)
    (hQ : ∀ (c : _) (a : Act) (d : Option Tmp) (v : Value) (w : World), Q (.panic c) (a.put d v) w → Q (.panic c) a w)
    (hS : S w.drew) (h : inOrderT P ops Q S τ σ a w.drew) : (Code.region id ops true).wp P Q a w := by
  simp only [Bool.and_eq_true, beq_iff_eq] at hB
  obtain ⟨⟨⟨h1, h2⟩, h3⟩, h4⟩ := hB
  refine wp_region_any hm ?_
  rw [← h2]
  refine any_of_headS (S := S) (L := fun listed a w => tailB .any ops τ listed = true ∧ inTail P ops Q τ a w) (fun listed a w h => any_of_tail τ listed a w h.1 h.2) _ _ _ _ ?_
  refine headS_of_order h1 h3 hQ σ _ a w.drew ?_ (by rw [h2]; exact h4) hS h
  intro j o hj hl
  rcases Nat.lt_or_ge j ops.size with h' | h'
  · simp [h2, h'] at hl
  · simp [h2, h'] at hl

/-- Some operations taken ahead that yield in whatever world. -/
def inPre (P : Program) (ops : Array Oper) (N : Act → World → Prop) : List Nat → Act → World → Prop
  | [], a, w => N a w
  | i :: r, a, w => ∃ o v, ops[i]? = some o ∧ Yields P ops o v a ∧ inPre P ops N r (a.put o.dst v) w
def preB (md : Region.Mode) (ops : Array Oper) (rest : Array Bool → Bool) : List Nat → Array Bool → Bool
  | [], listed => rest listed
  | i :: r, listed => Region.free md ops listed i && (Region.ready md ops listed).contains i && preB md ops rest r (listed.setIfInBounds i true)
theorem any_of_pre {N : Act → World → Prop} {rest : Array Bool → Bool} {g : Nat} (hs : Region.noSelect ops = true) (hQ : ∀ (c : _) (a : Act) (d : Option Tmp) (v : Value) (w : World), Q (.panic c) (a.put d v) w → Q (.panic c) a w)
    (hN : ∀ listed a w, Came md ops listed → rest listed = true → N a w → wpAny P md ops Q g listed a w) :
    ∀ (π : List Nat) (listed : Array Bool) (a : Act) (w : World), Came md ops listed → preB md ops rest π listed = true → inPre P ops N π a w → wpAny P md ops Q (π.length + g) listed a w
  | [], listed, a, w, hc, hB, h => by rw [List.length_nil, Nat.zero_add]; exact hN _ _ _ hc hB h
  | i :: r, listed, a, w, hc, hB, h => by
    simp only [preB, Bool.and_eq_true] at hB
    obtain ⟨⟨hf, hr⟩, hB'⟩ := hB
    obtain ⟨o, v, ho, hy, h'⟩ := h
    rw [List.length_cons, show r.length + 1 + g = (r.length + g) + 1 by omega]
    exact wpAny_take ho hs hf hr (fun c a w => hQ c a o.dst v w) hy (any_of_pre hs hQ hN r _ _ w (hc.set (by simpa using hr)) hB' h')

theorem wp_region_orderP {id : Nat} {a : Act} {w : World} (S : World → Prop) (π : List Nat) (σ : List (Bool × Nat)) (τ : List Nat) (hm : P.follows .mixedOrders = true)
    (hB : (Region.noSelect ops && (π.length + (σ.length + τ.length) == ops.size) && waitsB .any ops π τ && preB .any ops (orderTB .any ops π τ σ) π (Array.replicate ops.size false)) = true)
    (hQ : ∀ (c : _) (a : Act) (d : Option Tmp) (v : Value) (w : World), Q (.panic c) (a.put d v) w → Q (.panic c) a w)
    (h : inPre P ops (fun a w => S w ∧ inOrderT P ops Q S τ σ a w) π a w.drew) : (Code.region id ops true).wp P Q a w := by
  simp only [Bool.and_eq_true, beq_iff_eq] at hB
  obtain ⟨⟨⟨h1, h2⟩, h3⟩, h4⟩ := hB
  refine wp_region_any hm ?_
  rw [← h2]
  refine any_of_pre (N := fun a w => S w ∧ inOrderT P ops Q S τ σ a w) (rest := orderTB .any ops π τ σ) h1 hQ ?_ π _ a w.drew ?_ (by rw [h2]; exact h4) h
  · rintro listed a w hc hr ⟨hS, h⟩
    refine any_of_headS (S := S) (L := fun listed a w => tailB .any ops τ listed = true ∧ inTail P ops Q τ a w) (fun listed a w h => any_of_tail τ listed a w h.1 h.2) _ _ _ _ ?_
    exact headS_of_order h1 h3 hQ σ _ a w hc hr hS h
  · intro j o hj hl
    rcases Nat.lt_or_ge j ops.size with h' | h'
    · simp [h2, h'] at hl
    · simp [h2, h'] at hl

theorem pre_take {N : Act → World → Prop} {i : Nat} {r : List Nat} {o : Oper} {v : Value} {a : Act} {w : World} (ho : ops[i]? = some o) (hy : Yields P ops o v a) (h : inPre P ops N r (a.put o.dst v) w) : inPre P ops N (i :: r) a w := ⟨o, v, ho, hy, h⟩
theorem orderT_take {τ : List Nat} {i : Nat} {r : List (Bool × Nat)} {o : Oper} {v : Value} {a : Act} {w : World} (ho : ops[i]? = some o) (hy : YieldsIf P ops S o v a) (h : inOrderT P ops Q S τ r (a.put o.dst v) w) : inOrderT P ops Q S τ ((true, i) :: r) a w := ⟨o, v, ho, hy, h⟩
theorem orderT_do {τ : List Nat} {i : Nat} {r : List (Bool × Nat)} {o : Oper} {a : Act} {w : World} (ho : ops[i]? = some o)
    (h : ∀ K : Act → World → Prop, Shut (∀ a w, S w → (S w → inOrderT P ops Q S τ r a w) → K a w) → if Region.wanted o (yielded ops a.tmps) = true then Oper.wp P o a w K Q else K (a.put o.dst undef) w) : inOrderT P ops Q S τ ((false, i) :: r) a w := ⟨o, ho, h⟩
theorem tail_do {i : Nat} {r : List Nat} {o : Oper} {a : Act} {w : World} (ho : ops[i]? = some o)
    (h : ∀ K : Act → World → Prop, Shut (∀ a w, inTail P ops Q r a w → K a w) → if Region.wanted o (yielded ops a.tmps) = true then Oper.wp P o a w K Q else K (a.put o.dst undef) w) : inTail P ops Q (i :: r) a w := ⟨o, ho, h⟩
end
end Go.Proofs.YticconhcphocbaaGreatDoor
