/- The walks of the bracket's closure, of atom. -/
import Derived.Test.YthbkdbnalkeieaaDoorWithin
import Derived.Deep.RegionHeld2
namespace Go.Proofs.YthbkdbnalkeieaaDoor
open Go.RowKit Go.Sort Go.Shelf

theorem IsLv.later {w w' : World} {b : Nat} (h : IsLv w b) (hb : Below w.heap.size w w') : IsLv w' b := by
  obtain ⟨m, h1, h2⟩ := h
  exact ⟨m, (hb.block b (lt_of_block h1)).trans h1, fun k hk => (hb.block _ (lt_of_block (h2 k hk))).trans (h2 k hk)⟩

/-- level's contract. -/
def LevOk (n k : Nat) : Prop := ∀ (rb lb : Nat) (s : List UInt8) (o : Int) (w : World), IsR w rb s o → IsLv w lb → 0 ≤ o → o ≤ 32 → 8 * s.length + 2 * k + 3 ≤ n →
  ∀ v : Value, (k = 0 → ∃ p c, v = .slice p 0 c) → (k ≠ 0 → v = .slice (some ⟨lb, 3 - k, none⟩) k k) →
  Calls Tryd.prog 31 #[.pointer (some ⟨rb, 0, none⟩), v] w fun e w' => PEnd rb o w (prs n (.lev k) o s) e w'
def AtomOk (n : Nat) : Prop := ∀ (rb : Nat) (s : List UInt8) (o : Int) (w : World), IsR w rb s o → 0 ≤ o → o ≤ 32 → 8 * s.length + 2 ≤ n →
  Calls Tryd.prog 47 #[.pointer (some ⟨rb, 0, none⟩)] w fun e w' => PEnd rb o w (prs n .atom o s) e w'

theorem PEnd.from {rb : Nat} {o : Int} {w w1 : World} {pr : PR} {e : Ending} {w' : World} (hC : Chg (fun k => k = rb) w w1) (h : PEnd rb o w1 pr e w') : PEnd rb o w pr e w' := by
  cases pr with
  | bad x => exact ⟨h.1, hC.step h.2 (fun _ _ e => e)⟩
  | ok op la of r =>
    obtain ⟨⟨s, e1, hs⟩, hR, hc⟩ := h
    exact ⟨⟨s, e1, hs.mono (fun k hk => Nat.le_trans hC.size hk)⟩, hR, hC.step hc (fun _ _ e => e)⟩

set_option maxHeartbeats 4000000 in
set_option maxRecDepth 100000 in
theorem close_any (n : Nat) (HL : LevOk n 3) (rb bx : Nat) (s : List UInt8) (o : Int) (w : World) (h : IsR w rb s o) (hbx : w.cell? ⟨bx, 0, none⟩ = some (.pointer (some ⟨rb, 0, none⟩))) (h0 : 0 ≤ o) (h1 : o ≤ 32) (hn : 8 * s.length + 9 ≤ n) :
    Calls Tryd.prog 62 #[.pointer (some ⟨bx, 0, none⟩)] w fun e w' => PEnd rb o w (prs n (.lev 3) o s) e w' := by
  have hbA : Below w.heap.size w (w.alloc (.cells #[.int .i64 0, .int .i64 0, .slice none 0 0] 26)) := (Below.refl _ w).alloc (Nat.le_refl _) _
  obtain ⟨W, hW⟩ : ∃ W, W = w.alloc (.cells #[.int .i64 0, .int .i64 0, .slice none 0 0] 26) := ⟨_, rfl⟩
  rw [← hW] at hbA
  have hR := h.later hbA
  have hlt := h.lt
  have hK : W.heap[w.heap.size]? = some (.cells #[.int .i64 0, .int .i64 0, .slice none 0 0] 26 (0, 0)) := by rw [hW]; exact block_alloc_new w _
  have hx : W.cell? ⟨bx, 0, none⟩ = some (.pointer (some ⟨rb, 0, none⟩)) := (hbA.cell (World.block_lt_of_cell? w _ hbx)).trans hbx
  have HR := Lib.hid hR
  have HK := Lib.hid hK
  have HBA := Lib.hid hbA
  have HLV := Lib.hid HL
  clear hR hK hbA HL h hbx
  go_enter Tryd.func62, Tryd.ntmps62
  go_upto_region 1 with fail
  rw [← hW]
  clear hW
  have hne : bx ≠ rb := by
    rintro rfl
    have := HR.out.c0
    rw [hx] at this
    cases this
  have K31 : Hid (∀ (w1 : World) (lb : Nat), Below W.heap.size W w1 → IsLv w1 lb → Calls Tryd.prog 31 #[.pointer (some ⟨rb, 0, none⟩), .slice (some ⟨lb, 0, none⟩) 3 3] w1 fun e w' => PEnd rb o w1 (prs n (.lev 3) o s) e w') :=
    Lib.hid fun w1 lb hb hl => HLV.out rb lb s o w1 (HR.out.later hb) hl h0 h1 (by omega) _ (by simp) (by simp)
  clear HLV
  refine wp_region_any (by kernel_rfl) ?_
  change wpAny _ _ _ _ _ _ _ W.drew
  refine wpAny_ready (rs := [0, 1]) (by kernel_rfl) (by simp) ?_
  refine AllReady.cons rfl (fun K hK => ?pa) (AllReady.cons rfl (fun K hK => ?pb) AllReady.nil)
  case' pa =>
    go_simp
    refine hK _ _ ?_
    clear hK K
    refine wpAny_ready (rs := [1]) (by kernel_rfl) (by simp) ?_
    refine AllReady.cons rfl (fun K hK => ?_) AllReady.nil
    go_simp
    go_wp2_with fail
    refine (levels_any _).mono ?_
    rintro e w1 ⟨lb, rfl, hLv, hb1, hlb⟩
    have hb1' : Below W.heap.size W w1 := ⟨hb1.os, hb1.tape, hb1.output, hb1.size, hb1.block⟩
    clear hb1 hlb
    refine hK _ _ ?_
    clear hK K
  case' pb =>
    go_simp
    go_wp2_with fail
    refine (levels_any _).mono ?_
    rintro e w1 ⟨lb, rfl, hLv, hb1, hlb⟩
    have hb1' : Below W.heap.size W w1 := ⟨hb1.os, hb1.tape, hb1.output, hb1.size, hb1.block⟩
    have hx1 : w1.cell? ⟨bx, 0, none⟩ = some (.pointer (some ⟨rb, 0, none⟩)) := (hb1'.cell (World.block_lt_of_cell? W _ hx)).trans hx
    clear hb1 hlb
    refine hK _ _ ?_
    clear hK K
    refine wpAny_ready (rs := [0]) (by kernel_rfl) (by simp) ?_
    refine AllReady.cons rfl (fun K hK => ?_) AllReady.nil
    go_simp
    refine hK _ _ ?_
    clear hK K hx1
  all_goals
    refine wpAny_ready (rs := [2]) (by kernel_rfl) (by simp) ?_
    refine AllReady.cons rfl (fun K hK => ?_) AllReady.nil
    go_simp
    go_wp2_with fail
    refine (K31.out w1 lb hb1' hLv).mono ?_
    intro e w2 hE
    have hCw1 : Chg (fun k => k = rb) w w1 := Chg.of_below (HBA.out.trans (hb1'.mono HBA.out.size))
    have hE0 := PEnd.from hCw1 hE
    have hltW : w.heap.size < W.heap.size := lt_of_block HK.out
    have hw1s : W.heap.size ≤ w1.heap.size := hb1'.size
    cases hpr : prs n (.lev 3) o s with
    | bad x =>
      rw [hpr] at hE0
      obtain ⟨rfl, hC2⟩ := hE0
      refine ⟨rfl, ?_⟩
      show PEnd rb o w (prs n (.lev 3) o s) _ _
      rw [hpr]
      exact ⟨rfl, hC2⟩
    | ok op la of r =>
      rw [hpr] at hE0 hE
      obtain ⟨_, _, hC2⟩ := hE0
      obtain ⟨⟨s', rfl, hs'⟩, hR2, hc2⟩ := hE
      obtain ⟨p', cap', rfl⟩ := hs'.is.slice
      have hK2 : w2.heap[w.heap.size]? = some (.cells #[.int .i64 0, .int .i64 0, .slice none 0 0] 26 (0, 0)) :=
        hc2.keep ((hb1'.block _ (lt_of_block HK.out)).trans HK.out) (by show ¬ w.heap.size = rb; omega)
      obtain ⟨⟨t0, t1⟩, ⟨t2, t3⟩, ⟨t4, t5⟩, t6⟩ := store3 hK2 (.int .i64 op) (.int .i64 la) (.slice p' of.len cap')
      have u0 := cell_of (o := 0) (v := .int .i64 op) t6 rfl
      have u1 := cell_of (o := 1) (v := .int .i64 la) t6 rfl
      have u2 := cell_of (o := 2) (v := .slice p' of.len cap') t6 rfl
      have HS2 := Lib.hid hs'
      have HR2 := Lib.hid hR2
      have HC2 := Lib.hid hC2
      have HPR := Lib.hid hpr
      clear hs' hR2 hC2 hc2 hK2 t6 hpr hCw1 hb1' hLv
      go_wp2_with fail
      refine wpAny_ready (rs := [3]) (by kernel_rfl) (by simp) ?_
      refine AllReady.cons rfl (fun K hK => ?_) AllReady.nil
      go_simp
      refine hK _ _ ?_
      refine wpAny_done (by kernel_rfl) ?_ _
      go_wp2
      refine ⟨rfl, .agg #[.int .i64 op, .int .i64 la, .slice p' of.len cap'], ?_, ?_⟩
      · simp [results, Tryd.f62, go_sem, u0, u1, u2]
      · show PEnd rb o w (prs n (.lev 3) o s) _ _
        rw [HPR.out]
        have hne' : rb ≠ w.heap.size := by omega
        have hCf : Chg (fun k => k = w.heap.size) w2 (((w2.setCell ⟨w.heap.size, 0, none⟩ (.int .i64 op)).setCell ⟨w.heap.size, 1, none⟩ (.int .i64 la)).setCell ⟨w.heap.size, 2, none⟩ (.slice p' of.len cap')) :=
          (((Chg.refl (fun k => k = w.heap.size) w2).setCell (p := ⟨w.heap.size, 0, none⟩) (fun _ => rfl) _).setCell (p := ⟨w.heap.size, 1, none⟩) (fun _ => rfl) _).setCell (p := ⟨w.heap.size, 2, none⟩) (fun _ => rfl) _
        exact ⟨⟨_, rfl, ((HS2.out.keep hCf (fun k hk e => by omega)).mono (fun k hk => by omega))⟩, hCf.keep HR2.out hne', HC2.out.step hCf (fun k hk e => by omega)⟩
#print axioms close_any
end Go.Proofs.YthbkdbnalkeieaaDoor
