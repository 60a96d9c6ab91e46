/- The walk of Claim. -/
import Derived.Test.YtnaeiffaabeokaaGive
namespace Go.Proofs.Ytnaeiffaabeokaa
open Go.RowKit Go.Sort

/-- The order in the middle of Claim: x is taken, the high may still be below it. -/
structure Mid (many high : Int) (d : Array Int) (T : List Int) (x : Int) : Prop where
  h0 : 0 ≤ high
  h1 : high ≤ many
  h2 : many ≤ 65536
  hp : Hp.HP d
  nd : T.Nodup
  x0 : 0 ≤ x
  x1 : x < many
  inT : ∀ y ∈ T, 0 ≤ y ∧ (y < high ∨ y = x)
  hx : x ∈ T
  inD : ∀ y, Hp.Mem d y → 0 ≤ y ∧ y < high
  free : ∀ y, 0 ≤ y → y < high → y ∉ T → Hp.Mem d y

theorem Inv.mid {many high : Int} {d : Array Int} {T : List Int} (I : Inv many high d T) {x : Int} (x0 : 0 ≤ x) (x1 : x < many) (hx : x ∉ T) : Mid many high d (T ++ [x]) x := by
  refine ⟨I.h0, I.h1, I.h2, I.hp, nodup_snoc I.nd hx, x0, x1, fun y hy => ?_, by simp, I.inD, fun y h1 h2 h3 => ?_⟩
  · rcases List.mem_append.1 hy with h | h
    · have := I.inT y h; exact ⟨this.1, .inl this.2⟩
    · simp at h; subst h; exact ⟨x0, .inr rfl⟩
  · simp only [List.mem_append, List.mem_singleton, not_or] at h3
    exact I.free y h1 h2 h3.1
theorem Mid.done {many high : Int} {d : Array Int} {T : List Int} {x : Int} (M : Mid many high d T x) (h : x < high) : Inv many high d T :=
  ⟨M.h0, M.h1, M.h2, M.hp, M.nd, fun y hy => by
    have := M.inT y hy
    refine ⟨this.1, ?_⟩
    rcases this.2 with e | e
    · exact e
    · omega, M.inD, M.free⟩
theorem Mid.skip {many high : Int} {d : Array Int} {T : List Int} {x : Int} (M : Mid many high d T x) (h : high ≤ x) (hT : high ∈ T) : Mid many (high + 1) d T x := by
  have := M.h0; have := M.x1
  refine ⟨by omega, by omega, M.h2, M.hp, M.nd, M.x0, M.x1, fun y hy => ?_, M.hx, fun y hy => ?_, fun y h1 h2 h3 => ?_⟩
  · have := M.inT y hy
    refine ⟨this.1, ?_⟩
    rcases this.2 with e | e
    · exact .inl (by omega)
    · exact .inr e
  · have := M.inD y hy; omega
  · by_cases e : y = high
    · subst e; exact absurd hT h3
    · exact M.free y h1 (by omega) h3
theorem Mid.push {many high : Int} {d : Array Int} {T : List Int} {x : Int} (M : Mid many high d T x) (h : high ≤ x) (hT : high ∉ T) : Mid many (high + 1) (Hp.push d high) T x := by
  have := M.h0; have := M.x1
  refine ⟨by omega, by omega, M.h2, Hp.push_hp d high M.hp, M.nd, M.x0, M.x1, fun y hy => ?_, M.hx, fun y hy => ?_, fun y h1 h2 h3 => ?_⟩
  · have := M.inT y hy
    refine ⟨this.1, ?_⟩
    rcases this.2 with e | e
    · exact .inl (by omega)
    · exact .inr e
  · rcases (Hp.push_mem d high y).1 hy with h | rfl
    · have := M.inD y h; omega
    · omega
  · by_cases e : y = high
    · exact (Hp.push_mem d high y).2 (.inr e)
    · exact (Hp.push_mem d high y).2 (.inl (M.free y h1 (by omega) h3))

theorem IsArena.setHigh {w w' : World} {a h m : Nat} {g : Option Nat} {many high high' : Int} {d : Array Int} {T : List Int} (H : IsArena w a h m g many high d T) (hC : Chg (fun k => k = a) w w') (hb : IsArenaB w' a h m many high') : IsArena w' a h m g many high' d T := by
  have hn := H.nha
  exact ⟨hb, H.heap.keep hC hn.1 (fun k hk e => hn.2.2.2.1 (by rw [hk, e])), H.set.keep hC hn.2.1⟩
theorem put_none (a : Act) (v : Value) : a.put none v = a := rfl

/-- What Claim answers. -/
def claimE (many : Int) (T : List Int) (x : Int) : Int := if thereE many x = 0 then freeE T x else thereE many x

def ClaimRes (a h m : Nat) (g : Option Nat) (many high : Int) (d : Array Int) (T : List Int) (x : Int) (w : World) (e : Ending) (w' : World) : Prop :=
  e = .returned (.int .i64 (claimE many T x)) ∧ Chg (Foot a h m g) w w' ∧
  ((claimE many T x ≠ 0 ∧ IsArena w' a h m g many high d T) ∨
   (claimE many T x = 0 ∧ x ∉ T ∧ ∃ g' high' d', IsArena w' a h m g' many high' d' (T ++ [x]) ∧ Inv many high' d' (T ++ [x]) ∧ (d'.size : Int) ≤ d.size + many ∧ (∀ k, g' = some k → g = some k ∨ w.heap.size ≤ k)))

set_option maxHeartbeats 4000000 in
set_option maxRecDepth 100000 in
theorem claim_walk (a h m : Nat) (g : Option Nat) (many high x : Int) (d : Array Int) (T : List Int) (w : World) (H : IsArena w a h m g many high d T) (I : Inv many high d T) (hlen : d.size < 900000) (hx : (Lit.int .i64 x).wf = true) :
    Calls Try.prog 11 #[.pointer (some ⟨a, 0, none⟩), .int .i64 x] w (ClaimRes a h m g many high d T x w) := by
  have hF := ask_first a h m many high x 24 (freeE T x) w H.base enters24 (fun W hb b0 b1 => free_any _ _ a h m many high x T W (H.base.later hb) (H.set.later hb) hx b0 b1)
  unfold askWorld at hF
  have HF := Lib.hid hF
  have HH := Lib.hid H
  have HI := Lib.hid I
  clear hF H I
  go_enter Try.func11, Try.ntmps11
  go_wp2_with fail
  refine (there_any _ _ _).mono ?_
  rintro r w1 ⟨rfl, rfl⟩
  go_wp2_with fail
  refine HF.out.mono ?_
  rintro r w1 ⟨rfl, hb, b0, b1⟩
  have hAr : IsArena w1 a h m g many high d T := ⟨HH.out.base.later hb, HH.out.heap.keep (Chg.of_below (S := fun _ => False) hb) (by simp) (by simp), HH.out.set.later hb⟩
  have HA := Lib.hid hAr
  have Hb := Lib.hid hb
  have c3 := hAr.base.c3
  clear hAr hb
  have hge : (if thereE many x = 0 then freeE T x else thereE many x) = claimE many T x := rfl
  rw [hge]
  by_cases h0 : claimE many T x = 0
  · have h0' : (claimE many T x == 0) = true := by rw [h0]; rfl
    have hxx : x ∉ T ∧ 0 ≤ x ∧ x < many := by
      unfold claimE freeE thereE at h0
      by_cases hc : 0 ≤ x ∧ x < many
      · rw [if_pos hc] at h0
        by_cases hc2 : x ∈ T
        · simp [hc2] at h0
        · exact ⟨hc2, hc⟩
      · rw [if_neg hc] at h0
        simp at h0
    obtain ⟨hxT, hx0, hx1⟩ := hxx
    have H0 := Lib.hid h0
    have hnha := HA.out.nha
    have hlm := HasMap.lt HH.out.set
    have hlth := HH.out.heap.lt
    have hTl : T.length < maxLen := by
      have := HI.out.len
      unfold maxLen
      omega
    have hadd : addT T x = T ++ [x] := by unfold addT; rw [if_neg hxT]
    clear h0 hge
    go_wp2
    go_still_tail 5, (by kernel_rfl)
    change wpList _ _ _ _ _ w1.drew
    go_wp2_with (at_mapUpdate; refine wpList_set_update _ rfl _ _ _ rfl m T x rfl (by exact HA.out.set) rfl hx rfl hTl ?_; intro w2 hS2 hC2; have hC2' := Lib.hid hC2; have hb2 : IsArenaB w2 a h m many high := hC2.keep (show (w1.drewN 0).heap[a]? = _ from HA.out.base) (fun e => hnha.2.1 e.symm); have b0q := hC2.cell (w := w1.drew) b0 (by show ¬ w.heap.size = m; omega); have b1q := hC2.cell (w := w1.drew) b1 (by show ¬ w.heap.size + 1 = m; omega); have hB2 := Lib.hid hb2; clear hC2 hb2)
    have hh2 : IsHeap w2 h g d := IsHeap.keep (w := w1.drew) HA.out.heap hC2'.out (fun e => hnha.2.2.1 e.symm) (fun k hk e => hnha.2.2.2.2.2 (by rw [hk, e]))
    rw [hadd] at hS2
    have C0 : Chg (Foot a h m g) w w2 := (Chg.of_below Hb.out).step hC2'.out.undrew (fun b _ e => .inr (.inr (.inl e)))
    have R0 : ∃ (g' : Option Nat) (high' : Int) (d' : Array Int), IsArena w2 a h m g' many high' d' (T ++ [x]) ∧ Mid many high' d' (T ++ [x]) x ∧ (∀ k, g' = some k → g = some k ∨ w2.heap.size ≤ k) ∧ (d'.size : Int) ≤ d.size + high' ∧ x + 1 - high' + 1 ≤ ((x + 2 - high).toNat + 1 : Nat) :=
      ⟨g, high, d, ⟨hB2.out, hh2, hS2⟩, HI.out.mid hx0 hx1 hxT, fun k e => .inl e, by have := HI.out.h0; omega, by omega⟩
    have hnew0 : w.heap.size ≠ a := by have := lt_of_block HH.out.base; omega
    have hnew1 : w.heap.size + 1 ≠ a := by have := lt_of_block HH.out.base; omega
    have HR0 := Lib.hid R0
    have HC0 := Lib.hid C0
    have hw02 : w.heap.size + 2 ≤ w2.heap.size := by have := World.block_lt_of_cell? w2 _ b1q; have e : w.heap.size + 1 < w2.heap.size := this; omega
    clear R0 C0 hS2 hh2 b0 b1 hC2' hB2 hadd hlm HA HF HH
    rw [put_none]
    go_loopg [19] ((x + 2 - high).toNat + 1) (fun gg _ wr => wr.cell? ⟨w.heap.size, 0, none⟩ = some (.pointer (some ⟨a, 0, none⟩)) ∧ wr.cell? ⟨w.heap.size + 1, 0, none⟩ = some (.int .i64 x) ∧ Hid (Chg (Foot a h m g) w wr) ∧
      ∃ (g' : Option Nat) (high' : Int) (d' : Array Int), w2.heap.size ≤ wr.heap.size ∧ IsArena wr a h m g' many high' d' (T ++ [x]) ∧ Mid many high' d' (T ++ [x]) x ∧ (∀ k, g' = some k → g = some k ∨ w2.heap.size ≤ k) ∧ (d'.size : Int) ≤ d.size + high' ∧ x + 1 - high' + 1 ≤ gg)
    case atStart => obtain ⟨g', high', d', r⟩ := HR0.out; exact ⟨b0q, b1q, HC0, g', high', d', Nat.le_refl _, r⟩
    case round =>
      obtain ⟨b0, b1, HC, g', high', d', hw2, hA, hM, hg, hsz, hgk⟩ := hrel
      clear HR0 HC0 b0q b1q
      have c0 := hA.base.c0
      have c2 := hA.base.c2
      have c3q := hA.base.c3
      have fa : wr.frozen? ⟨a, 2, none⟩ = false := free_of hA.base
      have hwfh : (Lit.int .i64 high').wf = true := wfI (by have := hM.h0; omega) (by have := hM.h1; have := hM.h2; omega)
      have hlk := fun n => hA.set.lookup_all (x := high') hwfh n
      have hb1 : high' ≤ 65537 := by have := hM.h1; have := hM.h2; omega
      have hb0 : 0 ≤ high' := hM.h0
      have HA := Lib.hid hA
      have HM := Lib.hid hM
      have HG := Lib.hid hg
      clear hA hM hg
      by_cases hle : high' ≤ x
      · by_cases hT : high' ∈ T ++ [x]
        · rw [decide_eq_true hT] at hlk
          go_wp2_with fail
          go_quiet (fail)
          go_wp2_with fail
          go_quiet (fail)
          go_wp2
          go_roundg ((x + 1 - high').toNat)
          case measure => omega
          case rel =>
            rename_i nq0
            have hC1 : Chg (fun k => k = a) wr ((wr.drewN (nq0 + nq)).setCell ⟨a, 2, none⟩ (.int .i64 (high' + 1))) := ((Chg.refl (fun k => k = a) _).drewN (nq0 + nq)).setCell (p := ⟨a, 2, none⟩) (fun _ => rfl) _
            exact ⟨hC1.cell b0 hnew0, hC1.cell b1 hnew1, Lib.hid (HC.out.step hC1 (fun b _ e => .inl e)), g', high' + 1, d', Nat.le_trans hw2 hC1.size, HA.out.setHigh hC1 (block_setCell _ HA.out.base), HM.out.skip hle hT, HG.out, by omega, by omega⟩
        · rw [decide_eq_false hT] at hlk
          go_wp2_with fail
          go_quiet (fail)
          go_wp2_with fail
          go_quiet (fail)
          go_wp2_with fail
          generalize hwq : World.drewN (World.drewN wr _) _ = wq
          have hqA : IsArena wq a h m g' many high' d' (T ++ [x]) := by rw [← hwq]; exact ⟨HA.out.base, HA.out.heap, HA.out.set⟩
          have hqC : Chg (Foot a h m g) w wq := by rw [← hwq]; exact (HC.out.drewN _).drewN _
          have b0w : wq.cell? ⟨w.heap.size, 0, none⟩ = some (.pointer (some ⟨a, 0, none⟩)) := by rw [← hwq]; exact b0
          have b1w : wq.cell? ⟨w.heap.size + 1, 0, none⟩ = some (.int .i64 x) := by rw [← hwq]; exact b1
          have c0w := hqA.base.c0
          have c2w := hqA.base.c2
          have HQA := Lib.hid hqA
          have HQC := Lib.hid hqC
          have hwwq : wr.heap.size ≤ wq.heap.size := by rw [← hwq]; exact Nat.le_refl _
          clear hwq b0 b1 c0 c2 c3q fa hlk HA HC hqA hqC
          go_still_tail 8, (by kernel_rfl)
          change wpList _ _ _ _ _ wq.drew
          go_wp2_with fail
          refine (push_any h g' d' high' wq.drew (HQA.out.heap) (by omega)).mono ?_
          rintro e w3 ⟨rfl, g3, hh3, hC3, hg3⟩
          have hnq := HQA.out.nha
          have hC3' : Chg (fun k => k = h ∨ g' = some k) wq w3 := hC3.undrew
          have hww : w2.heap.size ≤ wq.heap.size := Nat.le_trans hw2 hwwq
          have b0r := hC3'.cell b0w (by rintro (e | e); exact absurd (show w.heap.size = h from e) (by omega); rcases HG.out _ e with e | e; exact absurd (hlth.2 _ e) (Nat.lt_irrefl _); exact absurd (show w2.heap.size ≤ w.heap.size from e) (by omega))
          have b1r := hC3'.cell b1w (by rintro (e | e); exact absurd (show w.heap.size + 1 = h from e) (by omega); rcases HG.out _ e with e | e; exact absurd (show w.heap.size + 1 < w.heap.size from hlth.2 _ e) (by omega); exact absurd (show w2.heap.size ≤ w.heap.size + 1 from e) (by omega))
          have hB3 : IsArenaB w3 a h m many high' := hC3'.keep HQA.out.base (by rintro (e | e); exact hnq.1 e.symm; exact hnq.2.2.2.1 e)
          have hS3 : IsSet w3 m (T ++ [x]) := HQA.out.set.keep hC3' (by rintro (e | e); exact hnq.2.2.1 e; exact hnq.2.2.2.2.2 e)
          have c2r := hB3.c2
          have far : w3.frozen? ⟨a, 2, none⟩ = false := free_of hB3
          have hA3 : IsArena w3 a h m g3 many high' (Hp.push d' high') (T ++ [x]) := ⟨hB3, hh3, hS3⟩
          have HA3 := Lib.hid hA3
          have HC3 := Lib.hid hC3'
          have HG3 := Lib.hid hg3
          clear hA3 hB3 hS3 hh3 hC3 hC3' hg3 b0w b1w c0w c2w
          go_wp2
          go_roundg ((x + 1 - high').toNat)
          case measure => omega
          case rel =>
            have hC1 : Chg (fun k => k = a) w3 (w3.setCell ⟨a, 2, none⟩ (.int .i64 (high' + 1))) := (Chg.refl (fun k => k = a) _).setCell (p := ⟨a, 2, none⟩) (fun _ => rfl) _
            have hCa : Chg (Foot a h m g) w w3 := HQC.out.step HC3.out (fun b hb e => by
              rcases e with e | e
              · exact .inr (.inl e)
              · rcases HG.out _ e with e | e
                · exact .inr (.inr (.inr e))
                · omega)
            refine ⟨hC1.cell b0r hnew0, hC1.cell b1r hnew1, Lib.hid (hCa.step hC1 (fun b _ e => .inl e)), g3, high' + 1, Hp.push d' high', Nat.le_trans (Nat.le_trans hww HC3.out.size) hC1.size, HA3.out.setHigh hC1 (block_setCell _ HA3.out.base), HM.out.push hle hT, fun k hk => ?_, by rw [Hp.push_size]; omega, by omega⟩
            rcases HG3.out k hk with e | e
            · exact HG.out k e
            · exact .inr (Nat.le_trans hww e)
      · have hle' : decide (high' ≤ x) = false := decide_eq_false hle
        go_wp2_with fail
        go_quiet (fail)
        go_wp2
        go_ret
        have hgt : x < high' := hle
        refine ⟨rfl, HC.out.drewN _, .inr ⟨H0.out, hxT, g', high', d', ⟨HA.out.base, HA.out.heap, HA.out.set⟩, HM.out.done hgt, ?_, fun k hk => (HG.out k hk).imp id (fun e => by omega)⟩⟩
        have := HM.out.h1; have := HM.out.h2; omega
  · have h0' : (claimE many T x == 0) = false := beq_eq_false_iff_ne.2 h0
    go_wp2
    go_ret
    exact ⟨rfl, Chg.of_below Hb.out, .inl ⟨h0, HA.out⟩⟩
#print axioms claim_walk
end Go.Proofs.Ytnaeiffaabeokaa
