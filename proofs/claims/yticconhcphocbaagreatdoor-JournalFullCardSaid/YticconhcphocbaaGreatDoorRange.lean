/- A range over a function whose round knows which thing is next, and may owe what it keeps. -/
import Derived.RangeFuncNested
import Derived.RangeFuncBound
import Derived.RangeFuncCalls
import Derived.RangeFuncLeaves
import Derived.Shelf.Abstract
import Derived.OwnWalkIn
import Derived.TacticsInMore
import Derived.LoopNIn
import Derived.LoopIn
import Derived.Test.YticconhcphocbaaGreatDoorExt
namespace Go.Proofs.YticconhcphocbaaGreatDoor
open Go.RowKit Go.Sort Go.Shelf

section
variable {F : Fence} {n : Nat} {P : Program}
/-- What a round leaves. -/
def Rounds {α : Type} (Kp : World → World → Prop) (I : List α → World → Prop) (Ix : Code → List α → World → Prop) (xs : List α) (W : World) : Exit → Act → World → Prop
  | .normal, _, W' => KeepsOthers W W' ∧ Kp W W' ∧ I xs W'
  | .ret, _, W' => KeepsOthers W W' ∧ Kp W W' ∧ Ix .ret xs W'
  | .exit id, _, W' => KeepsOthers W W' ∧ Kp W W' ∧ Ix (.exit id) xs W'
  | _, _, _ => False

/-- An iterator's word. -/
def IterX {α : Type} (F : Fence) (n : Nat) (P : Program) (g : Nat) (lb : Array Value) (encs : α → Array Value) (Kp : World → World → Prop) (S Sp : List α → Prop) (XS : List α) (w : World) : Prop :=
  ∀ (l : Nat) (J Jx : List α → World → Prop) (W : World), Below w.heap.size w W → AbidesFrom W.heap.size J → AbidesFrom W.heap.size Jx →
    (∀ pre x W1, J pre W1 → pre ++ [x] <+: XS → YieldAt F (n - 1) P l (encs x) W1 fun e W' =>
      (e = .returned (.bool true) ∧ J (pre ++ [x]) W' ∧ Kp W1 W') ∨ (e = .returned (.bool false) ∧ Jx (pre ++ [x]) W' ∧ Kp W1 W')) →
    J [] W →
    CallsIn F n P g (#[.func (.yield l) #[] #[]] ++ lb) W fun e W' => (∃ v, e = .returned v) ∧ ((∃ xs, S xs ∧ J xs W') ∨ (∃ pre, Sp pre ∧ Jx pre W'))

set_option maxHeartbeats 1000000 in
theorem range_lawX {α : Type} {g : Operand} {ps : Array Tmp} {assign body : Code} {Q : Exit → Act → World → Prop} {a : Act} {w : World}
    (hro : F.round = none) (h1 : 1 ≤ n) {gf : Nat} {lb : Array Value} (hg : a.eval g = .func (.func gf) #[] lb) (hFg : F.fn gf) (eg : ∀ args w, (callFunc gf args).run P w = .ok (.enter gf args) w)
    {encs : α → Array Value} {Kp : World → World → Prop} {S Sp : List α → Prop} {XS : List α} (hseq : IterX F (n - 1) P gf lb encs Kp S Sp XS w)
    (hKt : ∀ {A B C : World}, Kp A B → Kp B C → Kp A C) (hKb : ∀ (W : World) (l : Nat) (o o' : Obj), W.heap[l]? = some o → o.isCells = false → Kp W (W.putObj l o')) (hps : ∀ x, (encs x).size = ps.size)
    (I : List α → World → Prop) (Ix : Code → List α → World → Prop) (hI : OwnFrom w.heap.size I) (hIx : ∀ c, OwnFrom w.heap.size (Ix c)) (h0 : I [] w) (Ax : Nat → α → Act → World → Prop) (hAx : ∀ D x a' W l o o', Ax D x a' W → W.heap[l]? = some o → o.isCells = false → Ax D x a' (W.putObj l o'))
    (hassign : ∀ (l : Nat) (pre : List α) (x : α) (W : World) (K : Act → World → Prop), I pre W → (∀ a' W', KeepsOthers W W' → Kp W W' → I pre W' → Ax W.heap.size x a' W' → K a' W') →
      assign.wpIn (F.inRound l) (n - 1 - 1) P (Exit.then K (fun _ _ _ => False)) { tmps := (ps.zip (encs x)).foldl (fun t (p, v) => t.setIfInBounds p v) a.tmps, defers := [] } W)
    (hbody : ∀ (l D : Nat) (pre : List α) (x : α) (a' : Act) (W : World), I pre W → Ax D x a' W → w.heap.size + 1 < D → pre ++ [x] <+: XS → body.wpIn (F.inRound l) (n - 1 - 1) P (Rounds Kp I Ix (pre ++ [x]) W) a' W)
    (hdone : ∀ (D : Nat) (xs : List α) (W : World), w.heap.size ≤ D → S xs → I xs W → W.heap[D]? = some (.deferred (some [])) → Q .normal { a with defers := { target := .collected D, args := #[] } :: a.defers } W)
    (hstop : ∀ (D : Nat) (c : Code) (pre : List α) (W : World), w.heap.size ≤ D → Sp pre → Ix c pre W → W.heap[D]? = some (.deferred (some [])) → c.wpIn F n P Q { a with defers := { target := .collected D, args := #[] } :: a.defers } W) :
    (Code.rangeFunc g ps assign body).wpIn F n P Q a w := by
  apply wpIn_rangeFunc
  intro fn hfn
  rw [hro]
  have ⟨rec, hrec⟩ : ∃ rec : LoopState → Option Code → Loop, rec = fun st pe => { state := st, pending := pe, fn, tmps := a.tmps, params := ps, assign, body, defers := w.heap.size } := ⟨_, rfl⟩
  have ⟨X, hX⟩ : ∃ X, X = (w.alloc (.deferred (some []))).alloc (.loop (rec .ready none)) := ⟨_, rfl⟩
  have xl : X.heap[w.heap.size + 1]? = some (.loop (rec .ready none)) := by
    have := World.alloc_heap_new (w.alloc (.deferred (some []))) (.loop (rec .ready none))
    rw [World.size_alloc] at this
    rw [hX]; exact this
  have xd : X.heap[w.heap.size]? = some (.deferred (some [])) := by
    rw [hX]; exact (Below.heap_alloc _ _ _ (by simp)).trans (World.alloc_heap_new w _)
  have xi : I [] X := by rw [hX]; exact hI.alloc _ (hI.alloc _ h0)
  have xb : Below w.heap.size w X := by rw [hX]; exact ((Below.refl _ w).alloc (Nat.le_refl _) _).alloc (by simp) _
  have xs : w.heap.size + 2 = X.heap.size := by rw [hX]; simp
  -- the record and the mark in a world
  have ⟨Bk, hBk⟩ : ∃ Bk : LoopState → Option Code → World → Prop, Bk = fun st pe W => W.heap[w.heap.size + 1]? = some (.loop (rec st pe)) ∧ W.heap[w.heap.size]? = some (.deferred (some [])) := ⟨_, rfl⟩
  have walks : ∀ {st : LoopState} {pe : Option Code} {A B : World} {row : Option Nat}, Bk st pe A → A.grownBy B row → (∀ r, row = some r → X.heap.size ≤ r ∧ ∃ o : Obj, A.heap[r]? = some o ∧ o.isWalk = true) → Bk st pe B := by
    intro st pe A B row hb hg' hr
    rw [hBk] at hb ⊢
    exact ⟨(grownBy_keeps hg' (fun r e => (hr r e).2) hb.1 rfl).trans hb.1, (grownBy_keeps hg' (fun r e => (hr r e).2) hb.2 rfl).trans hb.2⟩
  have cells : ∀ {A : World} {row : Option Nat}, (∀ r, row = some r → X.heap.size ≤ r ∧ ∃ o : Obj, A.heap[r]? = some o ∧ o.isWalk = true) → ∀ r, row = some r → w.heap.size ≤ r ∧ ∃ o : Obj, A.heap[r]? = some o ∧ o.isCells = false := by
    intro A row hr r e
    obtain ⟨hB, o, ho, hw⟩ := hr r e
    exact ⟨by omega, o, ho, Obj.not_cells_of_walk hw⟩
  refine ⟨w.heap.size + 1, [{ target := .collected w.heap.size, args := #[] }], X, { target := .fn (.func gf) lb, args := #[.func (.yield (w.heap.size + 1)) #[] #[]] }, X, gf,
    #[.func (.yield (w.heap.size + 1)) #[] #[]] ++ lb, X, ?_, ?_, ?_, ?_, fun _ => h1, ?_⟩
  · rw [hX, hrec]; exact run_enterLoop_outer _ _ _ _ _
  · simp only [resolve, hg]
    simp [go_sem]
  · intro f' hf'
    simp [Target.leads] at hf'
    subst hf'
    exact hFg
  · simp [invoke, go_sem, eg]
  refine (hseq (w.heap.size + 1) (fun pre W => I pre W ∧ Bk .ready none W) (fun pre W => ∃ c, Ix c pre W ∧ Bk .done (some c) W) X xb
    (fun s A B row hs hg' hr => ⟨hI s A B row hs.1 hg' (cells hr), walks hs.2 hg' hr⟩)
    (fun s A B row ⟨c, hc, hs⟩ hg' hr => ⟨c, hIx c s A B row hc hg' (cells hr), walks hs hg' hr⟩) ?_ ⟨xi, by rw [hBk]; exact ⟨xl, xd⟩⟩).mono ?_
  · rintro pre x W ⟨hi, hb⟩ hpN
    have hb0 := hb
    rw [hBk] at hb
    obtain ⟨hl, hk⟩ := hb
    have hlt := lt_of_block hl
    have hy := run_yield (P := P) (args := encs x) hl (by rw [hrec]; exact hps x)
    rw [hrec] at hy
    refine ⟨fn, _, assign, body, hy, roundIn_of_wpIn hfn (hassign _ pre x W _ hi ?_)⟩
    intro a' W' hko hkp hi' hax
    have hl' := hko.same _ _ hl rfl
    have hk' := hko.same _ _ hk rfl
    have hlt' := lt_of_block hl'
    have ⟨V, hV⟩ : ∃ V, V = W'.putObj (w.heap.size + 1) (.loop { rec .ready none with state := .busy }) := ⟨_, rfl⟩
    have vl : V.heap[w.heap.size + 1]? = some (.loop { rec .ready none with state := .busy }) := by rw [hV]; exact World.putObj_heap_same hlt'
    have vk : V.heap[w.heap.size]? = some (.deferred (some [])) := by rw [hV]; exact (World.putObj_heap_other (by omega)).trans hk'
    have vkp : Kp W V := by rw [hV]; exact hKt hkp (hKb _ _ _ _ hl' rfl)
    have vi : I pre V := by rw [hV]; exact hI.putObj _ hi' (by omega) hl' rfl
    have vax : Ax W.heap.size x a' V := by rw [hV]; exact hAx _ _ _ _ _ _ _ hax hl' rfl
    refine ⟨V, ?_, wpIn_mono (hbody _ W.heap.size pre x a' V vi vax hlt hpN) ?_⟩
    · have := run_beginRound (P := P) hl' (by rw [hrec])
      rw [this, hV]
    -- the round's end
    have close : ∀ (jump : Option Code) (W3 : World), KeepsOthers V W3 →
        (Instr.endRound (w.heap.size + 1) jump).run P W3 = .ok (.bool jump.isNone) (W3.putObj (w.heap.size + 1) (.loop (rec (if jump.isNone then .ready else .done) jump))) ∧
        (∃ o, W3.heap[w.heap.size + 1]? = some o ∧ o.isCells = false) ∧ Bk (if jump.isNone then .ready else .done) jump (W3.putObj (w.heap.size + 1) (.loop (rec (if jump.isNone then .ready else .done) jump))) := by
      intro jump W3 h3
      have l3 := h3.same _ _ vl rfl
      have this := run_endRound (P := P) jump l3
      rw [hBk]
      refine ⟨by rw [hrec] at this ⊢; exact this, ⟨_, l3, rfl⟩, World.putObj_heap_same (lt_of_block l3), (World.putObj_heap_other (by omega)).trans (h3.same _ _ vk rfl)⟩
    intro e a3 W3 hp
    cases e with
    | normal =>
      obtain ⟨h3, k3, i3⟩ := hp
      obtain ⟨hr, ⟨o, ho, hoc⟩, b3⟩ := close none W3 h3
      exact ⟨_, _, hr, .inl ⟨rfl, ⟨hI.putObj _ i3 (by omega) ho hoc, b3⟩, hKt (hKt vkp k3) (hKb _ _ _ _ ho hoc)⟩⟩
    | ret =>
      obtain ⟨h3, k3, i3⟩ := hp
      obtain ⟨hr, ⟨o, ho, hoc⟩, b3⟩ := close (some .ret) W3 h3
      exact ⟨_, _, hr, .inr ⟨rfl, ⟨.ret, (hIx _).putObj _ i3 (by omega) ho hoc, b3⟩, hKt (hKt vkp k3) (hKb _ _ _ _ ho hoc)⟩⟩
    | exit id =>
      obtain ⟨h3, k3, i3⟩ := hp
      obtain ⟨hr, ⟨o, ho, hoc⟩, b3⟩ := close (some (.exit id)) W3 h3
      exact ⟨_, _, hr, .inr ⟨rfl, ⟨.exit id, (hIx _).putObj _ i3 (by omega) ho hoc, b3⟩, hKt (hKt vkp k3) (hKb _ _ _ _ ho hoc)⟩⟩
    | goto t => exact hp.elim
    | panic ch => exact hp.elim
    | outgrown => exact hp.elim
  · rintro e W2 ⟨⟨v, rfl⟩, (⟨ys, hS, hi, hb⟩ | ⟨pre, hSp, c, hi, hb⟩)⟩
    · rw [hBk] at hb
      refine ⟨none, _, by have := run_endLoop (P := P) hb.1 (by rw [hrec]; simp); rw [hrec] at this; exact this, hdone _ ys _ (Nat.le_refl _) hS (hI.putObj _ hi (by omega) hb.1 rfl) ((World.putObj_heap_other (by omega)).trans hb.2)⟩
    · rw [hBk] at hb
      refine ⟨some c, _, by have := run_endLoop (P := P) hb.1 (by rw [hrec]; simp); rw [hrec] at this; exact this, hstop _ c pre _ (Nat.le_refl _) hSp ((hIx c).putObj _ hi (by omega) hb.1 rfl) ((World.putObj_heap_other (by omega)).trans hb.2)⟩
end
theorem wpIn_scope_wide {n : Nat} {c : Code} {P : Program} {Q : Exit → Act → World → Prop} {a : Act} {w : World} (h : c.wpIn Fence.wide n P (Exit.noGoto Q) a w) : (Code.scope c).wpIn Fence.wide n P Q a w :=
  wpIn_wide.2 (wp_scope_straight (wpIn_wide.1 h))
@[go_sem] theorem noGoto_normal {Q : Exit → Act → World → Prop} {a : Act} {w : World} : Exit.noGoto Q .normal a w = Q .normal a w := rfl
@[go_sem] theorem noGoto_ret {Q : Exit → Act → World → Prop} {a : Act} {w : World} : Exit.noGoto Q .ret a w = Q .ret a w := rfl
theorem YieldAt.wideDepth {m : Nat} (m' : Nat) {P : Program} {l : Nat} {args : Array Value} {W : World} {R : Ending → World → Prop} (h : YieldAt Fence.wide m P l args W R) : YieldAt Fence.wide m' P l args W R := by
  obtain ⟨fn, tmps, assign, body, hy, hR⟩ := h
  exact ⟨fn, tmps, assign, body, hy, hR.1, fun c cs _ => hR.2 c cs (fun d h => by cases h)⟩

theorem IterX.later {α : Type} {F : Fence} {n : Nat} {P : Program} {g : Nat} {lb : Array Value} {encs : α → Array Value} {Kp : World → World → Prop} {S Sp : List α → Prop} {XS : List α} {w V : World}
    (h : IterX F n P g lb encs Kp S Sp XS w) (hb : Below w.heap.size w V) : IterX F n P g lb encs Kp S Sp XS V :=
  fun l J Jx W hW => h l J Jx W (hb.trans (hW.mono hb.size))

end Go.Proofs.YticconhcphocbaaGreatDoor
