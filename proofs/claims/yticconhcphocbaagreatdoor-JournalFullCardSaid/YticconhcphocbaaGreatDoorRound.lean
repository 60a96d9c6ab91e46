/- A region that draws its order, in the body of a range over a function: one walk of the lexical order, as outside a round. -/
import Derived.Deep.Quiet
import Derived.BigQuiet
import Derived.OrdersIn
import Derived.OwnWalkIn
namespace Go.Proofs.YticconhcphocbaaGreatDoor

section
variable {P : Program} {ops : Array Oper} {md : Region.Mode} {C : World → Prop} {l n : Nat}

theorem wpIn_round_of_quiet {o : Oper} {a : Act} {K : Act → Prop} {K' : Act → World → Prop} {Q' : Exit → Act → World → Prop} {w : World} (hd : ∀ c, o.op ≠ .defer c) (hw : C w) (h : ∀ a w', C w' → K a → K' a w') (hh : o.quiet P a C K) :
    o.wpIn (Fence.wide.inRound l) n P a w K' Q' := by
  obtain ⟨v, h1, h2⟩ := hh
  have h3 := h1 w hw
  unfold Oper.quietAt at h3
  unfold Oper.wpIn
  refine ⟨fun _ _ => trivial, ?_⟩
  rw [Oper.semAt_plain _ _ _ hd]
  generalize (execOp a.eval o).run P w = r at *
  cases r with
  | ok x w' =>
    cases x <;> simp only [Oper.quietUpon] at h3 <;> simp only [Oper.uponIn]
    case value u =>
      obtain ⟨e1, e2⟩ := h3
      rw [e1, e2]
      exact h _ _ hw h2
    case skip =>
      obtain ⟨e1, e2⟩ := h3
      rw [e1, ← e2]
      exact h _ _ hw h2
    case enter f args =>
      obtain ⟨e1, hc⟩ := h3
      rw [e1]
      refine ⟨fun hx => (by cases hx), ?_⟩
      have hcc : CallsIn (Fence.wide.inRound l) (n - 1) P f args w (fun e w'' => e = .returned v ∧ C w'') := (callsIn_wide.2 hc : CallsIn Fence.wide (n - 1) P f args w _)
      exact hcc.mono fun e w'' ⟨he, hw''⟩ => (by subst he; exact h _ _ hw'' h2)
  | halt x w' => simp only [Oper.quietUpon] at h3

theorem wpAnyIn_round_of_quiet {Q : Act → Prop} {Q' : Exit → Act → World → Prop} (hd : ∀ (i : Nat) (o : Oper) c, ops[i]? = some o → o.op ≠ Op.defer c) (hQ : ∀ a w, C w → Q a → Q' .normal a w) : ∀ (fuel : Nat) (listed : Array Bool) (a : Act) (w : World), C w →
    wpAnyQ P md ops C Q fuel listed a → wpAnyIn (Fence.wide.inRound l) n P md ops Q' fuel listed a w
  | 0, _, _, _, hw, h => ⟨h.1, hQ _ _ hw h.2⟩
  | fuel + 1, listed, a, w, hw, h => ⟨fun h0 => hQ _ _ hw (h.1 h0), fun i hi => by
    have hh := h.2 i hi
    unfold qOp at hh
    unfold wpOpIn
    split
    · rename_i ho; simp only [ho] at hh; exact wpAnyIn_round_of_quiet hd hQ fuel _ a w hw hh
    · rename_i o ho
      simp only [ho] at hh
      split
      · rename_i hwt
        simp only [hwt, if_true] at hh
        exact wpIn_round_of_quiet (fun c => hd i o c ho) hw (fun a' w' hw' => wpAnyIn_round_of_quiet hd hQ fuel _ a' w' hw') hh
      · rename_i hwt
        simp only [hwt] at hh
        exact ⟨fun _ _ => trivial, wpAnyIn_round_of_quiet hd hQ fuel _ _ w hw hh⟩⟩

def noDefer (ops : Array Oper) : Bool := ops.toList.all fun o => match o.op with | .defer _ => false | _ => true

theorem wpIn_region_quiet_round {id : Nat} {Q : Exit → Act → World → Prop} {a : Act} {w : World} (C : World → Prop) (hm : P.follows .mixedOrders = true) (hB : Region.lexB .any ops = true) (hn : noDefer ops = true) (hC : C { w with drawn := w.drawn + 1 })
    (h : wpQuiet P ops C (fun a' => ∀ w', C w' → Q .normal a' w') ops.toList a) : (Code.region id ops true).wpIn (Fence.wide.inRound l) n P Q a w := by
  simp only [Region.lexB, Bool.and_eq_true] at hB
  refine wpIn_region_any hm (wpAnyIn_round_of_quiet (Q := fun a' => ∀ w', C w' → Q .normal a' w') (fun i o c ho e => ?_) (fun _ w' hw' h => h w' hw') _ _ _ _ hC ?_)
  · unfold noDefer at hn
    rw [List.all_eq_true] at hn
    have := hn o (by rw [← Array.getElem?_toList] at ho; exact List.mem_of_getElem? ho)
    rw [e] at this
    cases this
  · have := wpAnyQ_lex (C := C) (md := .any) hB.1 ops.toList 0 (Array.replicate ops.size false) a (by simp) (by simpa using hB.2) h
    simpa using this
theorem wpIn_region_quiet_round_lit {id : Nat} {L : List Oper} {Q : Exit → Act → World → Prop} {a : Act} {w : World} (C : World → Prop) (hm : P.follows .mixedOrders = true) (hB : Region.lexB .any L.toArray = true) (hn : noDefer L.toArray = true) (hC : C { w with drawn := w.drawn + 1 })
    (h : wpQuiet P L.toArray C (fun a' => ∀ w', C w' → Q .normal a' w') L a) : (Code.region id L.toArray true).wpIn (Fence.wide.inRound l) n P Q a w := wpIn_region_quiet_round C hm hB hn hC h
end
#print axioms wpIn_region_quiet_round
end Go.Proofs.YticconhcphocbaaGreatDoor
