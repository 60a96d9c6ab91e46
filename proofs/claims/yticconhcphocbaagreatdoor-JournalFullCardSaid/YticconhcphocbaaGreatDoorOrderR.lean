/- A region that draws its order, in the body of a range over a function: by one order that is laid ahead. -/
import Derived.Test.YticconhcphocbaaGreatDoorOrderT
import Derived.Test.YticconhcphocbaaGreatDoorRound
namespace Go.Proofs.YticconhcphocbaaGreatDoor

section
variable {P : Program} {ops : Array Oper} {md : Region.Mode} {Q : Exit → Act → World → Prop} {l n : Nat}

theorem rowsIn_wide {r : String} {args : Array Value} {w : World} {R : Value → World → Prop} (h : Rows P r args w R) : RowsIn Fence.wide n P r args w R :=
  fun c cs _ => let ⟨v, w', q, s⟩ := h c cs; ⟨v, w', q, stepsIn_wide.2 s⟩

theorem wpIn_round_of_wp {o : Oper} {a : Act} {w : World} {K : Act → World → Prop} (hd : ∀ c, o.op ≠ .defer c) (h : o.wp P a w K Q) : o.wpIn (Fence.wide.inRound l) n P a w K Q := by
  refine ⟨fun _ _ => trivial, ?_⟩
  rw [Oper.semAt_plain _ _ _ hd]
  unfold Oper.wp at h
  generalize (execOp a.eval o).run P w = r at *
  cases r with
  | ok x w' =>
    cases x <;> simp only [Oper.upon] at h <;> simp only [Oper.uponIn]
    case value => exact h
    case skip => exact h
    case defer => exact h
    case enter f args => exact ⟨fun hx => (by cases hx), (callsIn_wide.2 h : CallsIn Fence.wide (n - 1) P f args w' _)⟩
    case row r args => exact ⟨fun hx => (by cases hx), (rowsIn_wide h : RowsIn Fence.wide (n - 1) P r args w' _)⟩
  | halt x w' => cases x <;> simp only [Oper.upon] at h <;> simp only [Oper.uponIn] <;> exact h

theorem wpOpIn_round_of_wp (hn : noDefer ops = true) (hlo : ¬ LetsOut Q) {i : Nat} {K : Act → World → Prop} {a : Act} {w : World} (h : wpOp P ops Q i K a w) : wpOpIn (Fence.wide.inRound l) n P ops Q i K a w := by
  unfold wpOp at h
  unfold wpOpIn
  split
  · rename_i ho; simp only [ho] at h; exact h
  · rename_i o ho
    simp only [ho] at h
    split
    · rename_i hw
      simp only [hw, if_true] at h
      refine wpIn_round_of_wp (fun c e => ?_) (h.resolve_right fun h => hlo h.2)
      unfold noDefer at hn
      rw [List.all_eq_true] at hn
      have := hn o (by rw [← Array.getElem?_toList] at ho; exact List.mem_of_getElem? ho)
      rw [e] at this
      cases this
    · rename_i hw
      simp only [hw] at h
      exact ⟨fun _ _ => trivial, h⟩

theorem wpAnyIn_round_of_any (hn : noDefer ops = true) (hlo : ¬ LetsOut Q) : ∀ (fuel : Nat) (listed : Array Bool) (a : Act) (w : World), wpAny P md ops Q fuel listed a w → wpAnyIn (Fence.wide.inRound l) n P md ops Q fuel listed a w
  | 0, _, _, _, h => h
  | fuel + 1, _, _, _, h => ⟨h.1, fun i hi => wpOpIn_mono (fun a' w' h' => wpAnyIn_round_of_any hn hlo fuel _ a' w' h') (wpOpIn_round_of_wp hn hlo (h.2 i hi))⟩

theorem wpIn_region_orderT {id : Nat} {a : Act} {w : World} (S : World → Prop) (σ : List (Bool × Nat)) (τ : List Nat) (hm : P.follows .mixedOrders = true)
    (hB : (noDefer ops && (Region.noSelect ops && (σ.length + τ.length == ops.size) && waitsB .any ops [] τ && orderTB .any ops [] τ σ (Array.replicate ops.size false))) = true)
    (hQ : ∀ (c : _) (a : Act) (d : Option Tmp) (v : Value) (w : World), Q (.panic c) (a.put d v) w → Q (.panic c) a w) (hlo : ¬ LetsOut Q)
    (hS : S w.drew) (h : inOrderT P ops Q S τ σ a w.drew) : (Code.region id ops true).wpIn (Fence.wide.inRound l) n P Q a w := by
  simp only [Bool.and_eq_true, beq_iff_eq] at hB
  obtain ⟨h0, ⟨⟨h1, h2⟩, h3⟩, h4⟩ := hB
  refine wpIn_region_any hm (wpAnyIn_round_of_any h0 hlo _ _ _ _ ?_)
  rw [← h2]
  refine any_of_headS (S := S) (L := fun listed a w => tailB .any ops τ listed = true ∧ inTail P ops Q τ a w) (fun listed a w h => any_of_tail τ listed a w h.1 h.2) _ _ _ _ ?_
  refine headS_of_order h1 h3 hQ σ _ a w.drew ?_ (by rw [h2]; exact h4) hS h
  intro j o hj hl
  rcases Nat.lt_or_ge j ops.size with h' | h'
  · simp [h2, h'] at hl
  · simp [h2, h'] at hl
end
end Go.Proofs.YticconhcphocbaaGreatDoor
