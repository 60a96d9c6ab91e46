/- The walk of Take. -/
import Derived.Test.YtnaeiffaabeokaaGoto
namespace Go.Proofs.Ytnaeiffaabeokaa
open Go.RowKit Go.Sort

/-- The arena's own order: the high, the heap's list, the set. -/
structure Inv (many high : Int) (d : Array Int) (T : List Int) : Prop where
  h0 : 0 ≤ high
  h1 : high ≤ many
  h2 : many ≤ 65536
  hp : Hp.HP d
  nd : T.Nodup
  inT : ∀ x ∈ T, 0 ≤ x ∧ x < high
  inD : ∀ x, Hp.Mem d x → 0 ≤ x ∧ x < high
  free : ∀ x, 0 ≤ x → x < high → x ∉ T → Hp.Mem d x

/-- Block a is an arena: its heap h with the row g, its map m. -/
structure IsArena (w : World) (a h m : Nat) (g : Option Nat) (many high : Int) (d : Array Int) (T : List Int) : Prop where
  base : IsArenaB w a h m many high
  heap : IsHeap w h g d
  set : IsSet w m T

def Foot (a h m : Nat) (g : Option Nat) (k : Nat) : Prop := k = a ∨ k = h ∨ k = m ∨ g = some k

theorem IsArena.nha {w : World} {a h m : Nat} {g : Option Nat} {many high : Int} {d : Array Int} {T : List Int} (H : IsArena w a h m g many high d T) : h ≠ a ∧ m ≠ a ∧ m ≠ h ∧ g ≠ some a ∧ g ≠ some h ∧ g ≠ some m := by
  obtain ⟨hb, hh, hs⟩ := H
  have hg := hh.ne
  obtain ⟨v, hv, ho, rfl⟩ := hh
  obtain ⟨es, clock, hm, _⟩ := hs
  unfold IsArenaB at hb
  refine ⟨?_, ?_, ?_, ?_, hg, ?_⟩
  · rintro rfl; rw [hb] at hv; simp at hv
  · rintro rfl; rw [hb] at hm; simp at hm
  · rintro rfl; rw [hv] at hm; simp at hm
  · intro e
    rcases ho.2 with ⟨rfl, _⟩ | ⟨b, cap, cur, rfl, _, hb2, _⟩
    · simp [Value.ownBlock] at e
    · simp only [Value.ownBlock, Option.some.injEq] at e
      subst e
      rw [hb] at hb2
      simp at hb2
  · intro e
    rcases ho.2 with ⟨rfl, _⟩ | ⟨b, cap, cur, rfl, _, hb2, _⟩
    · simp [Value.ownBlock] at e
    · simp only [Value.ownBlock, Option.some.injEq] at e
      subst e
      rw [hm] at hb2
      simp at hb2

theorem IsArena.keep {w w' : World} {a h m : Nat} {g : Option Nat} {many high : Int} {d : Array Int} {T : List Int} {S : Nat → Prop} (H : IsArena w a h m g many high d T) (hc : Chg S w w') (hS : ∀ k, Foot a h m g k → ¬ S k) : IsArena w' a h m g many high d T :=
  ⟨hc.keep H.base (hS a (.inl rfl)), H.heap.keep hc (hS h (.inr (.inl rfl))) (fun k hk => hS k (.inr (.inr (.inr hk)))), H.set.keep hc (hS m (.inr (.inr (.inl rfl))))⟩

theorem Inv.pop {many high : Int} {d : Array Int} {T : List Int} (I : Inv many high d T) (h0 : 0 < d.size) (hx : d[0]! ∈ T) : Inv many high (Hp.pop d) T :=
  ⟨I.h0, I.h1, I.h2, Hp.pop_hp d I.hp h0, I.nd, I.inT, fun x hm => I.inD x (Hp.pop_mem_of d x hm), fun x h1 h2 h3 => by
    rcases Hp.pop_mem d h0 x (I.free x h1 h2 h3) with h | h
    · rw [h] at h3; exact absurd hx h3
    · exact h⟩
theorem nodup_snoc {T : List Int} {x : Int} (h : T.Nodup) (hx : x ∉ T) : (T ++ [x]).Nodup := by
  rw [List.nodup_append]
  exact ⟨h, by simp, by rintro a ha b hb rfl; simp at hb; subst hb; exact hx ha⟩
theorem Inv.popTake {many high : Int} {d : Array Int} {T : List Int} (I : Inv many high d T) (h0 : 0 < d.size) (hx : d[0]! ∉ T) : Inv many high (Hp.pop d) (T ++ [d[0]!]) := by
  have hr := I.inD d[0]! ⟨0, h0, rfl⟩
  refine ⟨I.h0, I.h1, I.h2, Hp.pop_hp d I.hp h0, nodup_snoc I.nd hx, fun x hm => ?_, fun x hm => I.inD x (Hp.pop_mem_of d x hm), fun x h1 h2 h3 => ?_⟩
  · rcases List.mem_append.1 hm with h | h
    · exact I.inT x h
    · simp at h; subst h; exact hr
  · simp only [List.mem_append, List.mem_singleton, not_or] at h3
    rcases Hp.pop_mem d h0 x (I.free x h1 h2 h3.1) with h | h
    · exact absurd h h3.2
    · exact h
theorem Inv.least {many high : Int} {d : Array Int} {T : List Int} (I : Inv many high d T) (h0 : 0 < d.size) : ∀ q, 0 ≤ q → q < d[0]! → q ∈ T := by
  intro q hq hlt
  have hr := I.inD d[0]! ⟨0, h0, rfl⟩
  by_cases h : q ∈ T
  · exact h
  · obtain ⟨k, hk, e⟩ := I.free q hq (by omega) h
    have := Hp.hp_least d I.hp k hk
    omega
theorem Inv.full {many high : Int} {d : Array Int} {T : List Int} (I : Inv many high d T) (h0 : d.size = 0) : ∀ q, 0 ≤ q → q < high → q ∈ T := by
  intro q hq hlt
  by_cases h : q ∈ T
  · exact h
  · obtain ⟨k, hk, e⟩ := I.free q hq hlt h
    omega
theorem Inv.highOut {many high : Int} {d : Array Int} {T : List Int} (I : Inv many high d T) : high ∉ T := fun h => by have := I.inT _ h; omega
theorem Inv.highTake {many high : Int} {d : Array Int} {T : List Int} (I : Inv many high d T) (_h0 : d.size = 0) (hlt : high < many) : Inv many (high + 1) d (T ++ [high]) := by
  have h0' := I.h0
  refine ⟨by omega, by omega, I.h2, I.hp, nodup_snoc I.nd I.highOut, fun x hm => ?_, fun x hm => ?_, fun x h1 h2 h3 => ?_⟩
  · rcases List.mem_append.1 hm with h | h
    · have := I.inT x h; omega
    · simp at h; subst h; omega
  · have := I.inD x hm; omega
  · simp only [List.mem_append, List.mem_singleton, not_or] at h3
    exact I.free x h1 (by omega) h3.1

theorem Inv.len {many high : Int} {d : Array Int} {T : List Int} (I : Inv many high d T) : T.length ≤ 65536 := by
  refine Hp.len_le 65536 T I.nd (fun x hx => ?_)
  have h1 := I.inT x hx
  have h2 := I.h1
  have h3 := I.h2
  exact ⟨h1.1, by omega⟩

def TakeRes (a h m : Nat) (g : Option Nat) (many high : Int) (n : Nat) (T : List Int) (w : World) (e : Ending) (w' : World) : Prop :=
  Chg (Foot a h m g) w w' ∧
  ((∃ (p : Int) (d' : Array Int) (high' : Int), e = .returned (.tuple #[.int .i64 p, .int .i64 0]) ∧ p ∉ T ∧ 0 ≤ p ∧ p < many ∧ (∀ q, 0 ≤ q → q < p → q ∈ T) ∧
      IsArena w' a h m g many high' d' (T ++ [p]) ∧ Inv many high' d' (T ++ [p]) ∧ d'.size ≤ n ∧ ((high' = high ∧ p < high) ∨ (high' = high + 1 ∧ p = high))) ∨
   (∃ (d' : Array Int), e = .returned (.tuple #[.int .i64 0, .int .i64 210]) ∧ (∀ q, 0 ≤ q → q < many → q ∈ T) ∧ IsArena w' a h m g many high d' T ∧ Inv many high d' T ∧ d'.size ≤ n))

theorem wfI {x : Int} (h0 : -9223372036854775808 ≤ x) (h1 : x ≤ 9223372036854775807) : (Lit.int .i64 x).wf = true := WalkArith.wf_i64 ⟨h0, h1⟩

set_option maxHeartbeats 4000000 in
set_option maxRecDepth 100000 in
theorem take_walk (a h m : Nat) (g : Option Nat) (many high : Int) (d : Array Int) (T : List Int) (w : World) (H : IsArena w a h m g many high d T) (I : Inv many high d T) (hlen : d.size < 1048577) :
    Calls Try.prog 8 #[.pointer (some ⟨a, 0, none⟩)] w (TakeRes a h m g many high d.size T w) := by
  have c3 := H.base.c3
  go_enter Try.func8, Try.ntmps8
  go_wp2_with fail
  refine wp_scope_forward 0 rfl ?_
  go_wp2_with fail
  refine (none_any _ _ _ c3).mono ?_
  rintro e w' ⟨rfl, rfl⟩
  clear c3
  go_wp2
  go_loopg [4] (d.size + 1) (fun gg sx wr => ∃ (d' : Array Int), IsArena wr a h m g many high d' T ∧ Inv many high d' T ∧ d'.size ≤ d.size ∧ Chg (Foot a h m g) w wr ∧ d'.size + 1 ≤ gg)
  case atStart => exact ⟨d, H, I, Nat.le_refl _, Chg.refl _ _, Nat.le_refl _⟩
  case round =>
    obtain ⟨d', H', I', hd', hc', hgk⟩ := hrel
    clear H I
    have c0 := H'.base.c0
    have HH := Lib.hid H'
    have HI := Lib.hid I'
    have HC := Lib.hid hc'
    have hp0 := H'.heap
    have Hp0 := Lib.hid hp0
    have hTl : T.length < maxLen := by
      have := I'.len
      unfold maxLen
      omega
    have hnha := H'.nha
    have Hset := Lib.hid H'.set
    have Hbase := Lib.hid H'.base
    by_cases hz : d'.size = 0
    · have Hz := Lib.hid hz
      have c1 := H'.base.c1
      have c2 := H'.base.c2
      have c3 := H'.base.c3
      have fa : wr.frozen? ⟨a, 2, none⟩ = false := free_of H'.base
      have hwfh : (Lit.int .i64 high).wf = true := wfI (by have := I'.h0; omega) (by have := I'.h1; have := I'.h2; omega)
      have hlk := fun n => H'.set.lookup_all (x := high) hwfh n
      rw [decide_eq_false I'.highOut] at hlk
      have hb1 : high + 1 ≤ 65537 := by have := I'.h1; have := I'.h2; omega
      have hb0 : 0 ≤ high := I'.h0
      clear H' I' hc' hp0 hz
      go_wp2_with fail
      refine (pop_none h g d' _ Hp0.out Hz.out).mono ?_
      rintro e w' ⟨rfl, rfl⟩
      go_wp2
      refine wp_loop_rounds 1 ?_
      rw [rounds_succ]
      go_wp2_with fail
      go_quiet (fail)
      go_wp2_with fail
      by_cases hfull : high < many
      · have hf' : decide (many ≤ high) = false := decide_eq_false (by omega)
        go_quiet (fail)
        clear hlk
        go_wp2_with (at_mapUpdate; refine wpList_set_update _ rfl _ _ _ rfl m T high rfl (by exact Hset.out) rfl hwfh rfl hTl ?_; intro w1 hS1 hC1; have hb1 : IsArenaB w1 a h m many high := hC1.keep (show (wr.drewN 0).heap[a]? = _ from Hbase.out) (fun e => hnha.2.1 e.symm); have c2q := hb1.c2; have f2q := free_of (o := 2) hb1)
        rw [jump_ret]
        go_ret2
        have Hh1 : high ∉ T := HI.out.highOut
        have hadd : addT T high = T ++ [high] := by unfold addT; rw [if_neg Hh1]
        rw [hadd] at hS1
        have C1 : Chg (Foot a h m g) w w1 := (HC.out.drewN _).step hC1 (fun b _ e => .inr (.inr (.inl e)))
        have hC2 : Chg (fun k => k = a) w1 (w1.setCell ⟨a, 2, none⟩ (.int .i64 (high + 1))) := (Chg.refl (fun k => k = a) _).setCell (p := ⟨a, 2, none⟩) (fun _ => rfl) _
        refine ⟨C1.step hC2 (fun b _ e => .inl e), .inl ⟨high, d', high + 1, rfl, Hh1, hb0, hfull, fun q h0 h1 => HI.out.full Hz.out q h0 h1, ⟨?_, ?_, ?_⟩, HI.out.highTake Hz.out hfull, hd', .inr ⟨rfl, rfl⟩⟩⟩
        · exact block_setCell _ hb1
        · exact (IsHeap.keep (w := wr.drewN _) Hp0.out hC1 (fun e => hnha.2.2.1 e.symm) (fun k hk e => hnha.2.2.2.2.2 (by rw [hk, e]))).keep hC2 hnha.1 (fun k hk e => hnha.2.2.2.1 (by rw [hk, e]))
        · exact hS1.keep hC2 hnha.2.1
      · go_quiet (fail)
        go_wp2
        refine wp_goto ?_
        simp only [Exit.then]
        refine jump_goto ?_
        go_wp2
        go_ret2
        refine ⟨HC.out.drewN _, .inr ⟨d', rfl, fun q h0 h1 => HI.out.full Hz.out q h0 (by omega), ⟨HH.out.base, HH.out.heap, HH.out.set⟩, HI.out, hd'⟩⟩
    · have hz' : 0 < d'.size := by omega
      have Hz := Lib.hid hz'
      obtain ⟨x, hx⟩ : ∃ x, d'[0]! = x := ⟨_, rfl⟩
      have hr := I'.inD d'[0]! ⟨0, hz', rfl⟩
      rw [hx] at hr
      have hwfx : (Lit.int .i64 x).wf = true := wfI (by omega) (by have := I'.h1; have := I'.h2; omega)
      have hpop := pop_some h g d' wr Hp0.out hz' (by omega)
      rw [hx] at hpop
      have Hpop := Lib.hid hpop
      have Hx := Lib.hid hx
      have Hr := Lib.hid hr
      clear H' I' hc' hp0 hz hz' hpop hx hr
      go_wp2_with fail
      refine Hpop.out.mono ?_
      rintro e w1 ⟨rfl, hh1, hC1⟩
      have hb1 : IsArenaB w1 a h m many high := hC1.keep Hbase.out (by rintro (e | e); exact hnha.1 e.symm; exact hnha.2.2.2.1 e)
      have hs1 : IsSet w1 m T := Hset.out.keep hC1 (by rintro (e | e); exact hnha.2.2.1 e; exact hnha.2.2.2.2.2 e)
      have HC1 := Lib.hid hC1
      have HH1 := Lib.hid hh1
      have c3 := hb1.c3
      have hlk := hs1.lookup hwfx
      have Hb1 := Lib.hid hb1
      have Hs1 := Lib.hid hs1
      clear c0 hC1 hh1 hb1 hs1
      by_cases hxT : x ∈ T
      · rw [decide_eq_true hxT] at hlk
        go_wp2
        go_roundg ((Hp.pop d').size + 1)
        case measure => have := Hz.out; rw [Hp.pop_size]; omega
        case rel => 
          refine ⟨Hp.pop d', ⟨Hb1.out, HH1.out, Hs1.out⟩, HI.out.pop Hz.out (by rw [Hx.out]; exact hxT), by rw [Hp.pop_size]; omega, HC.out.step HC1.out (fun b _ e => ?_), Nat.le_refl _⟩
          rcases e with e | e
          · exact .inr (.inl e)
          · exact .inr (.inr (.inr e))
      · rw [decide_eq_false hxT] at hlk
        go_wp2_with (at_mapUpdate; refine wpList_set_update _ rfl _ _ _ rfl m T x rfl (by exact Hs1.out) rfl hwfx rfl hTl ?_; intro w2 hS2 hC2)
        rw [jump_ret]
        go_ret2
        have hadd : addT T x = T ++ [x] := by unfold addT; rw [if_neg hxT]
        rw [hadd] at hS2
        have C1 : Chg (Foot a h m g) w w1 := HC.out.step HC1.out (fun b _ e => by rcases e with e | e; exact .inr (.inl e); exact .inr (.inr (.inr e)))
        have hI2 := HI.out.popTake Hz.out (by rw [Hx.out]; exact hxT)
        rw [Hx.out] at hI2
        have hle := HI.out.least Hz.out
        rw [Hx.out] at hle
        have hr := Hr.out
        refine ⟨C1.step hC2 (fun b _ e => .inr (.inr (.inl e))), .inl ⟨x, Hp.pop d', high, rfl, hxT, hr.1, by have := HI.out.h1; omega, hle, ⟨?_, ?_, hS2⟩, hI2, by rw [Hp.pop_size]; omega, .inl ⟨rfl, hr.2⟩⟩⟩
        · exact hC2.keep Hb1.out (fun e => hnha.2.1 e.symm)
        · exact HH1.out.keep hC2 (fun e => hnha.2.2.1 e.symm) (fun k hk e => hnha.2.2.2.2.2 (by rw [hk, e]))
#print axioms take_walk
end Go.Proofs.Ytnaeiffaabeokaa
