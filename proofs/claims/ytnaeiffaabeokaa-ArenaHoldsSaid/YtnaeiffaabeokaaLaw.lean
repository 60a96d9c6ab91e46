/- The walk of the law: it answers true. -/
import Derived.Test.YtnaeiffaabeokaaOnes
import Derived.Deep.LoopGhost
import Derived.Deep.DeepCutAuto
namespace Go.Proofs.Ytnaeiffaabeokaa
open Go.RowKit Go.Sort

theorem Ar.bound {Z : Nat → Prop} {w : World} {a : Nat} {many high : Int} {n : Nat} {T : List Int} (H : Ar Z w a many high n T) : Ar (fun k => Z k ∧ k < w.heap.size) w a many high n T := by
  obtain ⟨h, m, g, d, hA, hI, hn, hZ⟩ := H
  refine ⟨h, m, g, d, hA, hI, hn, fun k hk => ⟨hZ k hk, ?_⟩⟩
  rcases hk with rfl | rfl | rfl | e
  · exact lt_of_block hA.base
  · exact hA.heap.lt.1
  · exact HasMap.lt hA.set
  · exact hA.heap.lt.2 k e

theorem filter_snoc {T : List Int} {p : Int} (h : p ∉ T) : (T ++ [p]).filter (fun y => !(y == p)) = T := by
  rw [List.filter_append]
  have h1 : T.filter (fun y => !(y == p)) = T := List.filter_eq_self.2 (fun y hy => by simp; rintro rfl; exact h hy)
  rw [h1]
  simp
theorem sameE_refl (T : List Int) : sameE T T = true := by simp [sameE]
theorem giveE_taken {T : List Int} {p : Int} (h0 : 0 ≤ p) (h1 : p < 30) : giveE 30 (T ++ [p]) p = 0 := by
  unfold giveE thereE takenE
  simp [h0, h1]

def LawInv (w0 : World) (a tb : Nat) (wr : World) (i : Nat) (mo : Int) (cl : Bool) (T : List Int) (high : Int) : Prop :=
  Ar (fun k => w0.heap.size ≤ k ∧ k ≠ tb) wr a 30 high (i * 31) T ∧ IsOnes wr tb T ∧ Below w0.heap.size w0 wr ∧ (cl = false → high ≤ mo) ∧ w0.heap.size ≤ tb ∧ 0 ≤ mo ∧ mo ≤ 30

def LawMid (w0 : World) (a tb : Nat) (wr : World) (i : Nat) (mo : Int) (cl : Bool) (T : List Int) (high : Int) : Prop :=
  Ar (fun k => w0.heap.size ≤ k ∧ k ≠ tb) wr a 30 high (i * 31) T ∧ IsOnes wr tb T ∧ Below w0.heap.size w0 wr ∧ (cl = false → high ≤ max mo T.length) ∧ w0.heap.size ≤ tb ∧ 0 ≤ mo ∧ mo ≤ 30

set_option maxHeartbeats 8000000 in
set_option maxRecDepth 100000 in
theorem law_some (b off cap len : Nat) (F G : Nat → Int) (w : World) (hlen : len ≤ 80) (hcap : len ≤ cap) (hcells : ∀ i, i < len → w.cell? ⟨b, off + i * 2, none⟩ = some (.int .i64 (F i)) ∧ w.cell? ⟨b, off + i * 2 + 1, none⟩ = some (.int .i64 (G i)) ∧ (Lit.int .i64 (G i)).wf = true) :
    Calls Try.prog 3 #[.slice (some ⟨b, off, none⟩) len cap] w fun e w' => e = .returned (.bool true) ∧ Below w.heap.size w w' := by
  have HC : Hid (∀ W, Below w.heap.size w W → ∀ i, i < len → W.cell? ⟨b, off + i * 2, none⟩ = some (.int .i64 (F i)) ∧ W.cell? ⟨b, off + i * 2 + 1, none⟩ = some (.int .i64 (G i))) :=
    Lib.hid fun W hb i hi => ⟨(hb.cell (World.block_lt_of_cell? w _ (hcells i hi).1)).trans (hcells i hi).1, (hb.cell (World.block_lt_of_cell? w _ (hcells i hi).2.1)).trans (hcells i hi).2.1⟩
  have HG : Hid (∀ i, i < len → (Lit.int .i64 (G i)).wf = true) := Lib.hid fun i hi => (hcells i hi).2.2
  clear hcells
  have g80 : decide (80 < (len : Int)) = false := decide_eq_false (by omega)
  have hmk : ∀ W : World, (Instr.makeMap 29 none).run Try.prog W = .ok (.map (some W.heap.size)) (W.alloc (.map #[] 0)) := fun W => rfl
  go_enter Try.func3, Try.ntmps3
  go_wp2_with fail
  refine (new_ar (fun k => w.heap.size ≤ k) 30 (by decide) (by decide) w (fun _ h => h)).mono ?_
  rintro e w1 ⟨a, rfl, hA1, hb1, ha1⟩
  have HA1 := Lib.hid hA1.bound
  have HB1 := Lib.hid hb1
  clear hA1 hb1
  go_wp2_with fail
  refine (num_any _ _).mono ?_
  rintro e w2 ⟨rfl, rfl⟩
  go_wp2_with fail
  obtain ⟨W, hW⟩ : ∃ W, W = w1.alloc (.map #[] 0) := ⟨_, rfl⟩
  have hI0 : LawInv w a w1.heap.size W 0 0 false [] 0 := by
    rw [hW]
    have hb : Below w1.heap.size w1 (w1.alloc (.map #[] 0)) := (Below.refl _ w1).alloc (Nat.le_refl _) _
    refine ⟨(HA1.out.later hb).mono (fun k hk => ⟨hk.1, by omega⟩) (Nat.le_refl _), HasMap.made w1, HB1.out.trans (hb.mono HB1.out.size), fun _ => Int.le_refl 0, HB1.out.size, Int.le_refl 0, by decide⟩
  have HI0 := Lib.hid hI0
  rw [← hW]
  clear hI0 hW HA1 HB1 hmk
  go_loopg [6, 7, 8] (len + 1) (fun gg s6 s7 s8 wr => ∃ (mo high : Int) (i : Nat) (cl : Bool) (T : List Int), s6 = .int .i64 mo ∧ s7 = .bool cl ∧ s8 = .int .i64 i ∧ i ≤ len ∧ len + 1 ≤ gg + i ∧ Hid (LawInv w a w1.heap.size wr i mo cl T high))
  case atStart => exact ⟨0, 0, 0, false, [], rfl, rfl, rfl, Nat.zero_le _, by omega, HI0⟩
  case round =>
    obtain ⟨mo, high, i, cl, T, rfl, rfl, rfl, hi, hgk, HI⟩ := hrel
    clear HI0
    by_cases hlt : i < len
    · have hg : ((i : Int) < (len : Int)) := by omega
      have hAr := HI.out.1
      have hBw := HI.out.2.2.1
      go_upto_region 11 with fail
      go_cut [9] (fun s9 wx => ∃ was : Nat, s9 = .pointer (some ⟨was, 0, none⟩) ∧ Hid (Ar (fun k => wr.heap.size ≤ k ∧ k < wx.heap.size) wx was 30 high (i * 31) T ∧ Below wr.heap.size wr wx))
      case first =>
        go_wp2_with fail
        refine (copy_ar _ (fun k => wr.heap.size ≤ k) a 30 high (i * 31) T wr hAr (by omega) (fun _ h => h)).mono ?_
        rintro e w3 ⟨was, rfl, hwas, hb3, hwas3⟩
        go_wp2_with fail
        go_meet
        exact ⟨was, rfl, Lib.hid ⟨hwas.bound, hb3⟩⟩
      case rest =>
        obtain ⟨was, rfl, HW3⟩ := hcut
        have hBw3 : Below w.heap.size w wc := hBw.trans (HW3.out.2.mono hBw.size)
        have cF := (HC.out wc hBw3 i hlt).1
        have HBW3 := Lib.hid hBw3
        clear hAr hBw hBw3
        apply_assumption
        refine wp_seq_k ?_
        intro K hK
        go_cut [7] (fun s7 wx => ∃ (cl' : Bool) (T' : List Int) (high' : Int), s7 = .bool cl' ∧ Hid (LawMid w a w1.heap.size wx (i + 1) mo cl' T' high'))
        case first =>
          have hTbA : IsOnes wc w1.heap.size T := HasMap.keep HI.out.2.1 (Chg.of_below (S := fun _ => False) HW3.out.2) (fun h => h)
          have htlt : w1.heap.size < wr.heap.size := HasMap.lt HI.out.2.1
          have hww : wr.heap.size ≤ wc.heap.size := HW3.out.2.size
          have hArc : Ar (fun k => (w.heap.size ≤ k ∧ k ≠ w1.heap.size) ∧ (k < wr.heap.size ∨ wc.heap.size ≤ k)) wc a 30 high (i * 31) T := ((HI.out.1.bound).later HW3.out.2).mono (fun k hk => ⟨hk.1, .inl hk.2⟩) (Nat.le_refl _)
          have hZ : ∀ w' : World, wc.heap.size ≤ w'.heap.size → ∀ k, w'.heap.size ≤ k → (w.heap.size ≤ k ∧ k ≠ w1.heap.size) ∧ (k < wr.heap.size ∨ wc.heap.size ≤ k) := by
            intro w' h k hk
            have := HBW3.out.size
            exact ⟨⟨by omega, by omega⟩, .inr (by omega)⟩
          have hbelow : ∀ w' : World, Chg (fun k => (w.heap.size ≤ k ∧ k ≠ w1.heap.size) ∧ (k < wr.heap.size ∨ wc.heap.size ≤ k)) wc w' → Below w.heap.size w w' := fun w' h => HBW3.out.trans (h.below (fun k _ hk => hk.1.1) HBW3.out.size)
          have HTB := Lib.hid hTbA
          have HARC := Lib.hid hArc
          have HZ := Lib.hid hZ
          have HBEL := Lib.hid hbelow
          have hinv := hArc.inv
          have hTl : T.length < maxLen := by
            have : T.length ≤ 30 := Hp.len_le 30 T hinv.1 (fun x hx => by have := hinv.2.2.2 x hx; have := hinv.2.1; omega)
            unfold maxLen; omega
          have HINV := Lib.hid hinv
          clear hTbA hArc hZ hbelow hinv hK
          have hmo := HI.out.2.2.2.1
          have hm0 : 0 ≤ mo ∧ mo ≤ 30 := HI.out.2.2.2.2.2
          have hwtb : w.heap.size ≤ w1.heap.size := HI.out.2.2.2.2.1
          have HMO := Lib.hid hmo
          clear hmo
          by_cases h0 : F i = 0
          · have h0' : (F i == 0) = true := by rw [h0]; rfl
            go_wp2_with fail
            refine (take_ar _ a 30 high (i * 31) T wc HARC.out (by omega) (HZ.out wc (Nat.le_refl _))).mono ?_
            rintro e w2 ⟨hC2, ⟨p, high', rfl, r1, r2, r3, r4, hA2, r5⟩ | ⟨rfl, r1, hA2⟩⟩
            · have HC2 := Lib.hid hC2
              have HA2 := Lib.hid hA2
              have hT2 : IsOnes w2 w1.heap.size T := HasMap.keep HTB.out hC2 (fun h => h.1.2 rfl)
              have hwf : (Lit.int .i64 p).wf = true := wfI (by omega) (by omega)
              have hlk := hT2.lookup hwf
              rw [if_neg r1] at hlk
              have HT2 := Lib.hid hT2
              have hp0 : decide (p < 0) = false := decide_eq_false (by omega)
              have hp1 : decide (30 ≤ p) = false := decide_eq_false (by omega)
              have HWAS2 := Lib.hid (HW3.out.1.keep hC2 (fun k hk hz hs => by rcases hs.2 with h | h; exact absurd hz.1 (by omega); exact absurd h (by omega)))
              clear hC2 hA2 hT2
              go_wp2_with (refine (num_any _ _).mono ?_; rintro e w' ⟨rfl, rfl⟩)
              have hs2 : wc.heap.size ≤ w2.heap.size := HC2.out.size
              refine (copy_ar _ (fun k => w2.heap.size ≤ k) a 30 high' (i * 31) (T ++ [p]) w2 HA2.out (by omega) (fun _ h => h)).mono ?_
              rintro e w3 ⟨bb, rfl, hb3, hbel3, hbb⟩
              have HBB := Lib.hid hb3
              have HBEL3 := Lib.hid hbel3
              clear hb3 hbel3 hlk
              go_wp2_with fail
              refine (give_ar (fun k => w2.heap.size ≤ k) bb 30 high' p (i * 31) (T ++ [p]) w3 HBB.out (by omega) hwf (fun k hk => Nat.le_trans HBEL3.out.size hk)).mono ?_
              rintro e w4 ⟨rfl, hC4, ⟨r, _⟩ | ⟨_, _, hB4⟩⟩
              · exact absurd (giveE_taken r2 r3) r
              rw [giveE_taken r2 r3]
              rw [filter_snoc r1] at hB4
              have hA4 : Ar (fun k => ((w.heap.size ≤ k ∧ k ≠ w1.heap.size) ∧ (k < wr.heap.size ∨ wc.heap.size ≤ k)) ∧ k < w2.heap.size) w4 a 30 high' (i * 31) (T ++ [p]) :=
                (HA2.out.bound.later HBEL3.out).keep hC4 (fun k _ hz hk => absurd hz.2 (by omega))
              have hT4 : IsOnes w4 w1.heap.size T := HasMap.keep (HasMap.keep HT2.out (Chg.of_below (S := fun _ => False) HBEL3.out) (fun h => h)) hC4 (fun h => absurd h (by omega))
              have hW4 := (HWAS2.out.later HBEL3.out).keep hC4 (fun k _ hz hk => absurd hz.2 (by omega))
              have hBe4 : Below w.heap.size w w4 := ((HBEL.out w2 HC2.out).trans (HBEL3.out.mono (HBEL.out w2 HC2.out).size)).trans (hC4.below (fun k _ hk => by have h' : w2.heap.size ≤ k := hk; have := HBW3.out.size; omega) (Nat.le_trans (HBEL.out w2 HC2.out).size HBEL3.out.size))
              have HA4 := Lib.hid hA4
              have HT4 := Lib.hid hT4
              have HW4 := Lib.hid hW4
              have HB4 := Lib.hid hB4
              have HBe4 := Lib.hid hBe4
              clear hA4 hT4 hW4 hB4 hBe4 hC4
              go_wp2_with (refine (num_any _ _).mono ?_; rintro e w' ⟨rfl, rfl⟩)
              refine (same_ar _ _ bb was 30 high' high _ _ T T w4 HB4.out HW4.out).mono ?_
              rintro e w5 ⟨rfl, hb5⟩
              rw [sameE_refl]
              have hT5 : IsOnes w5 w1.heap.size T := HasMap.keep HT4.out (Chg.of_below (S := fun _ => False) hb5) (fun h => h)
              obtain ⟨w6, hrun6, hT6, hC6⟩ := hT5.update hwf hTl r1
              have HA5 := Lib.hid (HA4.out.later hb5)
              have HBe5 := Lib.hid (HBe4.out.trans (hb5.mono HBe4.out.size))
              have HT6 := Lib.hid hT6
              have HC6 := Lib.hid hC6
              clear hT6 hC6 hT5 hb5
              go_wp2
              go_meet
              refine ⟨cl, T ++ [p], high', rfl, Lib.hid ⟨(HA5.out.keep HC6.out (fun k _ hz hk => hz.1.1.2 hk)).mono (fun k hk => hk.1.1) (by omega), HT6.out, HBe5.out.trans (HC6.out.below (fun k _ hk => by rw [hk]; exact hwtb) HBe5.out.size), fun hcl => ?_, hwtb, hm0.1, hm0.2⟩⟩
              have h1 := HMO.out hcl
              rcases r5 with ⟨e, _⟩ | ⟨e, hph⟩
              · omega
              · have hge : (p + 1).toNat ≤ (T ++ [p]).length := Hp.len_ge _ _ (nodup_snoc HINV.out.1 r1) (fun x h0 h1 => by
                  by_cases hx : x = p
                  · simp [hx]
                  · exact List.mem_append.2 (.inl (r4 x h0 (by omega))))
                omega
            · have HC2 := Lib.hid hC2
              have HA2 := Lib.hid hA2
              have hT2 : IsOnes w2 w1.heap.size T := HasMap.keep HTB.out hC2 (fun h => h.1.2 rfl)
              have h30 : T.length = 30 := by
                have h1 : T.length ≤ 30 := Hp.len_le 30 T HINV.out.1 (fun x hx => by have := HINV.out.2.2.2 x hx; have := HINV.out.2.1; omega)
                have h2 : 30 ≤ T.length := Hp.len_ge 30 T HINV.out.1 (fun x h0 h1 => r1 x h0 h1)
                omega
              have hln := fun ty => hT2.len ty
              rw [h30] at hln
              have HT2 := Lib.hid hT2
              clear hC2 hA2 hT2 r1
              go_wp2_with (refine (num_any _ _).mono ?_; rintro e w' ⟨rfl, rfl⟩)
              go_meet
              exact ⟨cl, T, high, rfl, Lib.hid ⟨HA2.out.mono (fun k hk => hk.1) (by omega), HT2.out, HBEL.out w2 HC2.out, fun hcl => by have := HMO.out hcl; omega, hwtb, hm0.1, hm0.2⟩⟩
          · have h0' : (F i == 0) = false := beq_eq_false_iff_ne.2 h0
            have cG := (HC.out wc HBW3.out i hlt).2
            have hwf := HG.out i hlt
            by_cases h1 : F i = 1
            · have h1' : (F i == 1) = true := by rw [h1]; rfl
              go_wp2_with fail
              refine (claim_ar _ a 30 high (G i) (i * 31) T wc HARC.out (by decide) (by omega) hwf (HZ.out wc (Nat.le_refl _))).mono ?_
              rintro e w2 ⟨rfl, hC2, ⟨hne, hA2⟩ | ⟨he, hx, high', hA2⟩⟩
              · have hne' : (claimE 30 T (G i) == 0) = false := beq_eq_false_iff_ne.2 hne
                have hT2 : IsOnes w2 w1.heap.size T := HasMap.keep HTB.out hC2 (fun h => h.1.2 rfl)
                have HC2 := Lib.hid hC2
                have HA2 := Lib.hid hA2
                have HT2 := Lib.hid hT2
                clear hC2 hA2 hT2
                go_wp2_with (refine (num_any _ _).mono ?_; rintro e w' ⟨rfl, rfl⟩)
                go_meet
                exact ⟨cl, T, high, rfl, Lib.hid ⟨HA2.out.mono (fun k hk => hk.1) (by omega), HT2.out, HBEL.out w2 HC2.out, fun hcl => by have := HMO.out hcl; omega, hwtb, hm0.1, hm0.2⟩⟩
              · rw [he]
                have hT2 : IsOnes w2 w1.heap.size T := HasMap.keep HTB.out hC2 (fun h => h.1.2 rfl)
                have hBe2 := HBEL.out w2 hC2
                have cG2 := (HC.out w2 hBe2 i hlt).2
                have hlk := hT2.lookup hwf
                rw [if_neg hx] at hlk
                obtain ⟨c, w3, w4, hr1, hr2, hT4, hC3, hC4⟩ := hT2.entry hwf hTl hx
                have HC2 := Lib.hid hC2
                have HA2 := Lib.hid hA2
                have HT4 := Lib.hid hT4
                have HC4 := Lib.hid hC4
                have HBe2 := Lib.hid hBe2
                clear hC2 hA2 hT2 hT4 hC3 hC4 hBe2
                go_wp2_with (refine (num_any _ _).mono ?_; rintro e w' ⟨rfl, rfl⟩)
                go_meet
                exact ⟨true, T ++ [G i], high', rfl, Lib.hid ⟨(HA2.out.keep HC4.out (fun k _ hz hk => hz.1.2 hk)).mono (fun k hk => hk.1) (by omega), HT4.out, HBe2.out.trans (HC4.out.below (fun k _ hk => by rw [hk]; exact hwtb) HBe2.out.size), (fun hcl => absurd hcl (by decide)), hwtb, hm0.1, hm0.2⟩⟩
            · have h1' : (F i == 1) = false := beq_eq_false_iff_ne.2 h1
              by_cases h2 : F i = 2
              · have h2' : (F i == 2) = true := by rw [h2]; rfl
                go_wp2_with fail
                refine (give_ar _ a 30 high (G i) (i * 31) T wc HARC.out (by omega) hwf (HZ.out wc (Nat.le_refl _))).mono ?_
                rintro e w2 ⟨rfl, hC2, ⟨hne, hA2⟩ | ⟨he, hx, hA2⟩⟩
                · have hne' : (giveE 30 T (G i) == 0) = false := beq_eq_false_iff_ne.2 hne
                  have hT2 : IsOnes w2 w1.heap.size T := HasMap.keep HTB.out hC2 (fun h => h.1.2 rfl)
                  have HC2 := Lib.hid hC2
                  have HA2 := Lib.hid hA2
                  have HT2 := Lib.hid hT2
                  clear hC2 hA2 hT2
                  go_wp2_with (refine (num_any _ _).mono ?_; rintro e w' ⟨rfl, rfl⟩)
                  go_meet
                  exact ⟨cl, T, high, rfl, Lib.hid ⟨HA2.out.mono (fun k hk => hk.1) (by omega), HT2.out, HBEL.out w2 HC2.out, fun hcl => by have := HMO.out hcl; omega, hwtb, hm0.1, hm0.2⟩⟩
                · rw [he]
                  have hT2 : IsOnes w2 w1.heap.size T := HasMap.keep HTB.out hC2 (fun h => h.1.2 rfl)
                  have hBe2 := HBEL.out w2 hC2
                  have cG2 := (HC.out w2 hBe2 i hlt).2
                  have hlk := hT2.lookup hwf
                  rw [if_pos hx] at hlk
                  obtain ⟨w4, hr1, hT4, hC4⟩ := hT2.delete hwf 0
                  have HC2 := Lib.hid hC2
                  have HA2 := Lib.hid hA2
                  have HT4 := Lib.hid hT4
                  have HC4 := Lib.hid hC4
                  have HBe2 := Lib.hid hBe2
                  clear hC2 hA2 hT2 hT4 hC4 hBe2
                  go_wp2_with (refine (num_any _ _).mono ?_; rintro e w' ⟨rfl, rfl⟩)
                  go_meet
                  exact ⟨cl, T.filter fun y => !(y == G i), high, rfl, Lib.hid ⟨(HA2.out.keep HC4.out (fun k _ hz hk => hz.1.2 hk)).mono (fun k hk => hk.1) (by omega), HT4.out, HBe2.out.trans (HC4.out.below (fun k _ hk => by rw [hk]; exact hwtb) HBe2.out.size), fun hcl => by have := HMO.out hcl; omega, hwtb, hm0.1, hm0.2⟩⟩
              · have h2' : (F i == 2) = false := beq_eq_false_iff_ne.2 h2
                go_wp2_with fail
                go_meet
                exact ⟨cl, T, high, rfl, Lib.hid ⟨HARC.out.mono (fun k hk => hk.1) (by omega), HTB.out, HBW3.out, fun hcl => by have := HMO.out hcl; omega, hwtb, hm0.1, hm0.2⟩⟩
        case rest =>
          obtain ⟨cl', T', high', rfl, HM⟩ := hcut
          refine hK _ _ ?_
          have hln := fun ty => HM.out.2.1.len ty
          have hA := HM.out.1
          clear hK cF
          go_wp2_with fail
          refine (len_ar _ a 30 high' _ T' wc hA).mono ?_
          rintro e w4 ⟨rfl, rfl⟩
          have hmx : ∀ (cl : Bool), cl' = cl → LawInv w a w1.heap.size wc (i + 1) (max mo T'.length) cl T' high' := by
            rintro cl rfl
            obtain ⟨m1, m2, m3, m4, m5, m6, m7⟩ := HM.out
            have h30 : T'.length ≤ 30 := by
              refine Hp.len_le 30 T' m1.inv.1 (fun x hx => ?_)
              have := m1.inv.2.2.2 x hx
              have := m1.inv.2.1
              omega
            exact ⟨m1, m2, m3, m4, m5, by omega, by omega⟩
          have HMX := Lib.hid hmx
          clear hmx
          cases cl' with
          | true =>
            go_wp2
            go_roundg (len - i)
            case measure => omega
            case rel => exact ⟨max mo T'.length, high', i + 1, true, T', rfl, rfl, by simp, by omega, by omega, Lib.hid (HMX.out true rfl)⟩
          | false =>
            go_wp2_with fail
            refine (top_ar _ a 30 high' _ T' wc hA).mono ?_
            rintro e w4 ⟨t, rfl, ht, hb4⟩
            have htop : decide (max mo (T'.length : Int) < t) = false := by
              have h1 := HM.out.2.2.2.1 rfl
              have h2 := HM.out.1.inv
              refine decide_eq_false ?_
              rcases ht with ⟨_, rfl⟩ | ⟨⟨x, hx, rfl⟩, _⟩
              · have := HM.out.2.2.2.2.2.1; omega
              · have := h2.2.2.2 x hx; omega
            have HB4 := Lib.hid hb4
            clear hb4 ht hln hA
            go_wp2
            go_roundg (len - i)
            case measure => omega
            case rel =>
              obtain ⟨m1, m2, m3, m4, m5, m6, m7⟩ := HMX.out false rfl
              exact ⟨max mo T'.length, high', i + 1, false, T', rfl, rfl, by simp, by omega, by omega, Lib.hid ⟨m1.later HB4.out, HasMap.keep m2 (Chg.of_below (S := fun _ => False) HB4.out) (fun h => h), m3.trans (HB4.out.mono m3.size), m4, m5, m6, m7⟩⟩
    · obtain rfl : i = len := by omega
      have hBw := HI.out.2.2.1
      go_wp2_with fail
      refine (works_any _).mono ?_
      rintro e w5 ⟨rfl, hb5⟩
      go_wp2
      go_ret
      exact ⟨rfl, hBw.trans (hb5.mono hBw.size)⟩
end Go.Proofs.Ytnaeiffaabeokaa
