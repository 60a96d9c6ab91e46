/- The walk of Give. -/
import Derived.Test.YtnaeiffaabeokaaTake
namespace Go.Proofs.Ytnaeiffaabeokaa
open Go.RowKit Go.Sort

theorem Chg.undrew {S : Nat → Prop} {w w' : World} (h : Chg S w.drew w') : Chg S w w' := ⟨h.os, h.tape, h.output, h.size, h.block⟩
theorem Chg.undrewN {S : Nat → Prop} {w w' : World} {n : Nat} (h : Chg S (w.drewN n) w') : Chg S w w' := ⟨h.os, h.tape, h.output, h.size, h.block⟩
theorem Chg.cell {S : Nat → Prop} {w w' : World} (h : Chg S w w') {p : Addr} {v : Value} (hc : w.cell? p = some v) (hS : ¬ S p.block) : w'.cell? p = some v :=
  (World.cell?_of_block (h.block p.block (World.block_lt_of_cell? w _ hc) hS)).trans hc

theorem Inv.give {many high : Int} {d : Array Int} {T : List Int} (I : Inv many high d T) {x : Int} (hx : x ∈ T) : Inv many high (Hp.push d x) (T.filter fun y => !(y == x)) := by
  have hr := I.inT x hx
  refine ⟨I.h0, I.h1, I.h2, Hp.push_hp d x I.hp, I.nd.filter _, fun y hy => I.inT y (List.mem_filter.1 hy).1, fun y hm => ?_, fun y h1 h2 h3 => ?_⟩
  · rcases (Hp.push_mem d x y).1 hm with h | rfl
    · exact I.inD y h
    · exact hr
  · by_cases e : y = x
    · exact (Hp.push_mem d x y).2 (.inr e)
    · refine (Hp.push_mem d x y).2 (.inl (I.free y h1 h2 (fun hT => h3 (List.mem_filter.2 ⟨hT, by simpa using e⟩))))

/-- Four boxes and a row of two function values: what a call of 'first' is asked in. -/
def askWorld (a : Nat) (x : Int) (g2 : Nat) (w : World) : World :=
  ((((w.alloc (.cells #[.pointer (some ⟨a, 0, none⟩)] 24)).alloc (.cells #[.int .i64 x] 3)).alloc (.cells #[.pointer (some ⟨a, 0, none⟩)] 24)).alloc (.cells #[.int .i64 x] 3)).alloc
    (.cells #[.func (.func 28) #[] #[.pointer (some ⟨w.heap.size + 1 + 1, 0, none⟩), .pointer (some ⟨w.heap.size + 1 + 1 + 1, 0, none⟩)], .func (.func g2) #[] #[.pointer (some ⟨w.heap.size, 0, none⟩), .pointer (some ⟨w.heap.size + 1, 0, none⟩)]] 51)

structure AskFacts (a : Nat) (x : Int) (g2 : Nat) (w X : World) : Prop where
  below : Below w.heap.size w X
  size : X.heap.size = w.heap.size + 5
  b0 : X.cell? ⟨w.heap.size, 0, none⟩ = some (.pointer (some ⟨a, 0, none⟩))
  b1 : X.cell? ⟨w.heap.size + 1, 0, none⟩ = some (.int .i64 x)
  b2 : X.cell? ⟨w.heap.size + 1 + 1, 0, none⟩ = some (.pointer (some ⟨a, 0, none⟩))
  b3 : X.cell? ⟨w.heap.size + 1 + 1 + 1, 0, none⟩ = some (.int .i64 x)
  row : X.heap[w.heap.size + 1 + 1 + 1 + 1]? = some (.cells #[.func (.func 28) #[] #[.pointer (some ⟨w.heap.size + 1 + 1, 0, none⟩), .pointer (some ⟨w.heap.size + 1 + 1 + 1, 0, none⟩)], .func (.func g2) #[] #[.pointer (some ⟨w.heap.size, 0, none⟩), .pointer (some ⟨w.heap.size + 1, 0, none⟩)]] 51 (0, 0))

theorem askFacts (a : Nat) (x : Int) (g2 : Nat) (w : World) : AskFacts a x g2 w (askWorld a x g2 w) := by
  have n1 := fun (W : World) (v : Value) (t : TypeId) => cell_of (w := W.alloc (.cells #[v] t)) (block_alloc_new W (.cells #[v] t)) (o := 0) rfl
  have s1 := fun (W : World) (o : Obj) => World.size_alloc W o
  refine ⟨?_, ?_, ?_, ?_, ?_, ?_, ?_⟩
  · exact ((((( Below.refl _ w).alloc (Nat.le_refl _) _).alloc (by simp) _).alloc (by simp; omega) _).alloc (by simp; omega) _).alloc (by simp; omega) _
  · simp [askWorld]
  · exact cell_alloc_keep _ (cell_alloc_keep _ (cell_alloc_keep _ (cell_alloc_keep _ (n1 _ _ _))))
  · have := n1 (w.alloc (.cells #[.pointer (some ⟨a, 0, none⟩)] 24)) (.int .i64 x) 3
    rw [World.size_alloc] at this
    exact cell_alloc_keep _ (cell_alloc_keep _ (cell_alloc_keep _ this))
  · have := n1 ((w.alloc (.cells #[.pointer (some ⟨a, 0, none⟩)] 24)).alloc (.cells #[.int .i64 x] 3)) (.pointer (some ⟨a, 0, none⟩)) 24
    rw [World.size_alloc, World.size_alloc] at this
    exact cell_alloc_keep _ (cell_alloc_keep _ this)
  · have := n1 (((w.alloc (.cells #[.pointer (some ⟨a, 0, none⟩)] 24)).alloc (.cells #[.int .i64 x] 3)).alloc (.cells #[.pointer (some ⟨a, 0, none⟩)] 24)) (.int .i64 x) 3
    rw [World.size_alloc, World.size_alloc, World.size_alloc] at this
    exact cell_alloc_keep _ this
  · have := block_alloc_new ((((w.alloc (.cells #[.pointer (some ⟨a, 0, none⟩)] 24)).alloc (.cells #[.int .i64 x] 3)).alloc (.cells #[.pointer (some ⟨a, 0, none⟩)] 24)).alloc (.cells #[.int .i64 x] 3)) (.cells #[.func (.func 28) #[] #[.pointer (some ⟨w.heap.size + 1 + 1, 0, none⟩), .pointer (some ⟨w.heap.size + 1 + 1 + 1, 0, none⟩)], .func (.func g2) #[] #[.pointer (some ⟨w.heap.size, 0, none⟩), .pointer (some ⟨w.heap.size + 1, 0, none⟩)]] 51)
    rw [World.size_alloc, World.size_alloc, World.size_alloc, World.size_alloc] at this
    exact this

/-- The call of 'first' on 'there' and a second question. -/
theorem ask_first (a h m : Nat) (many high x : Int) (g2 : Nat) (e2 : Int) (w : World) (hA : IsArenaB w a h m many high)
    (eg2 : ∀ args w, (callFunc g2 args).run Try.prog w = .ok (.enter g2 args) w)
    (h2 : ∀ W, Below w.heap.size w W → W.cell? ⟨w.heap.size, 0, none⟩ = some (.pointer (some ⟨a, 0, none⟩)) → W.cell? ⟨w.heap.size + 1, 0, none⟩ = some (.int .i64 x) → Calls Try.prog g2 #[.pointer (some ⟨w.heap.size, 0, none⟩), .pointer (some ⟨w.heap.size + 1, 0, none⟩)] W fun r w' => r = .returned (.int .i64 e2) ∧ Below W.heap.size W w') :
    Calls Try.prog 18 #[.slice (some ⟨w.heap.size + 1 + 1 + 1 + 1, 0, none⟩) 2 2] (askWorld a x g2 w) fun r w' => r = .returned (.int .i64 (if thereE many x = 0 then e2 else thereE many x)) ∧ Below w.heap.size w w' ∧
      w'.cell? ⟨w.heap.size, 0, none⟩ = some (.pointer (some ⟨a, 0, none⟩)) ∧ w'.cell? ⟨w.heap.size + 1, 0, none⟩ = some (.int .i64 x) := by
  have F := askFacts a x g2 w
  refine (first_two _ 28 g2 _ _ (thereE many x) e2 _ F.row enters28 eg2 ?_ ?_).mono ?_
  · intro W hb
    exact there1_any _ _ a h m many high x W ((hA.later F.below).later hb) ((hb.cell (p := ⟨w.heap.size + 1 + 1, 0, none⟩) (by rw [F.size]; show w.heap.size + 1 + 1 < _; omega)).trans F.b2) ((hb.cell (p := ⟨w.heap.size + 1 + 1 + 1, 0, none⟩) (by rw [F.size]; show w.heap.size + 1 + 1 + 1 < _; omega)).trans F.b3)
  · intro _ W hb
    exact h2 W (F.below.trans (hb.mono F.below.size)) ((hb.cell (p := ⟨w.heap.size, 0, none⟩) (by rw [F.size]; show w.heap.size < _; omega)).trans F.b0) ((hb.cell (p := ⟨w.heap.size + 1, 0, none⟩) (by rw [F.size]; show w.heap.size + 1 < _; omega)).trans F.b1)
  · rintro e w' ⟨rfl, hb⟩
    exact ⟨rfl, F.below.trans (hb.mono F.below.size), (hb.cell (p := ⟨w.heap.size, 0, none⟩) (by rw [F.size]; show w.heap.size < _; omega)).trans F.b0, (hb.cell (p := ⟨w.heap.size + 1, 0, none⟩) (by rw [F.size]; show w.heap.size + 1 < _; omega)).trans F.b1⟩

/-- What Give answers. -/
def giveE (many : Int) (T : List Int) (x : Int) : Int := if thereE many x = 0 then takenE T x else thereE many x

def GiveRes (a h m : Nat) (g : Option Nat) (many high : Int) (d : Array Int) (T : List Int) (x : Int) (w : World) (e : Ending) (w' : World) : Prop :=
  e = .returned (.int .i64 (giveE many T x)) ∧ Chg (Foot a h m g) w w' ∧
  ((giveE many T x ≠ 0 ∧ IsArena w' a h m g many high d T) ∨
   (giveE many T x = 0 ∧ x ∈ T ∧ ∃ g', IsArena w' a h m g' many high (Hp.push d x) (T.filter fun y => !(y == x)) ∧ Inv many high (Hp.push d x) (T.filter fun y => !(y == x)) ∧ (∀ k, g' = some k → g = some k ∨ w.heap.size ≤ k)))

set_option maxHeartbeats 4000000 in
set_option maxRecDepth 100000 in
theorem give_walk (a h m : Nat) (g : Option Nat) (many high x : Int) (d : Array Int) (T : List Int) (w : World) (H : IsArena w a h m g many high d T) (I : Inv many high d T) (hlen : d.size < 1048576) (hx : (Lit.int .i64 x).wf = true) :
    Calls Try.prog 9 #[.pointer (some ⟨a, 0, none⟩), .int .i64 x] w (GiveRes a h m g many high d T x w) := by
  have hF := ask_first a h m many high x 20 (takenE T x) w H.base enters20 (fun W hb b0 b1 => taken_any _ _ a h m many high x T W (H.base.later hb) (H.set.later hb) hx b0 b1)
  unfold askWorld at hF
  have HF := Lib.hid hF
  have HH := Lib.hid H
  have HI := Lib.hid I
  clear hF H I
  go_enter Try.func9, Try.ntmps9
  go_wp2_with fail
  refine (there_any _ _ _).mono ?_
  rintro r w1 ⟨rfl, rfl⟩
  go_wp2_with fail
  refine HF.out.mono ?_
  rintro r w1 ⟨rfl, hb, b0, b1⟩
  have hAr : IsArena w1 a h m g many high d T := ⟨HH.out.base.later hb, HH.out.heap.keep (Chg.of_below (S := fun _ => False) hb) (by simp) (by simp), HH.out.set.later hb⟩
  have HA := Lib.hid hAr
  have Hb := Lib.hid hb
  have c0 := hAr.base.c0
  have c3 := hAr.base.c3
  clear hAr hb
  have hge : (if thereE many x = 0 then takenE T x else thereE many x) = giveE many T x := rfl
  rw [hge]
  by_cases h0 : giveE many T x = 0
  · have h0' : (giveE many T x == 0) = true := by rw [h0]; rfl
    have hxT : x ∈ T := by
      by_cases hc : x ∈ T
      · exact hc
      · exfalso
        unfold giveE takenE at h0
        rw [if_neg hc] at h0
        split at h0
        · cases h0
        · exact absurd h0 ‹_›
    have H0 := Lib.hid h0
    have hnha := HA.out.nha
    have hlm := HasMap.lt HH.out.set
    have hlth := HH.out.heap.lt
    clear h0 hge
    go_wp2
    go_still_tail 5, (by kernel_rfl)
    change wpList _ _ _ _ _ w1.drew
    go_wp2_with (refine wpList_set_delete _ rfl _ _ rfl m T x rfl (by exact HA.out.set) rfl hx ?_; intro w2 hS2 hC2; have hC2' := Lib.hid hC2; have hb2 : IsArenaB w2 a h m many high := hC2.keep (show (w1.drewN 0).heap[a]? = _ from HA.out.base) (fun e => hnha.2.1 e.symm); have c0q := hb2.c0; have b0q := hC2.cell (w := w1.drew) b0 (by show ¬ w.heap.size = m; omega); have b1q := hC2.cell (w := w1.drew) b1 (by show ¬ w.heap.size + 1 = m; omega); have hB2 := Lib.hid hb2; clear hC2 hb2)
    have hh2 : IsHeap w2 h g d := IsHeap.keep (w := w1.drew) HA.out.heap hC2'.out (fun e => hnha.2.2.1 e.symm) (fun k hk e => hnha.2.2.2.2.2 (by rw [hk, e]))
    go_still_tail 5, (by kernel_rfl)
    change wpList _ _ _ _ _ w2.drew
    go_wp2_with fail
    refine (push_any h g d x w2.drew hh2 hlen).mono ?_
    rintro e w3 ⟨rfl, g', hh3, hC3, hg3⟩
    have HC3 := Lib.hid hC3
    have HH3 := Lib.hid hh3
    have HG3 := Lib.hid hg3
    have HS2 := Lib.hid hS2
    clear hC3 hh3 hg3 hS2 hh2 b0q b1q c0q
    go_wp2
    go_ret
    have hC3' : Chg (fun k => k = h ∨ g = some k) w2 w3 := HC3.out.undrew
    have hC2q : Chg (fun k => k = m) w1 w2 := hC2'.out.undrew
    refine ⟨rfl, ((Chg.of_below Hb.out).step hC2q (fun b _ e => .inr (.inr (.inl e)))).step hC3' (fun b _ e => by rcases e with e | e; exact .inr (.inl e); exact .inr (.inr (.inr e))), .inr ⟨H0.out, hxT, g', ⟨?_, HH3.out, ?_⟩, HI.out.give hxT, ?_⟩⟩
    · exact hC3'.keep hB2.out (by rintro (e | e); exact hnha.1 e.symm; exact hnha.2.2.2.1 e)
    · exact HS2.out.keep hC3' (by rintro (e | e); exact hnha.2.2.1 e; exact hnha.2.2.2.2.2 e)
    · intro k hk
      rcases HG3.out k hk with e | e
      · exact .inl e
      · right
        have h1 : w1.heap.size ≤ w2.heap.size := hC2q.size
        have h2 := Hb.out.size
        have e' : w2.heap.size ≤ k := e
        omega
  · have h0' : (giveE many T x == 0) = false := beq_eq_false_iff_ne.2 h0
    go_wp2
    go_ret
    exact ⟨rfl, Chg.of_below Hb.out, .inl ⟨h0, HA.out⟩⟩
#print axioms give_walk
end Go.Proofs.Ytnaeiffaabeokaa
