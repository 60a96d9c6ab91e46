/- Which objects there are: segments. -/
import Derived.Test.YticconhcphocbaaGreatDoorJ3
import Derived.RecoverIn
namespace Go.Proofs.YticconhcphocbaaGreatDoor
open Go.RowKit Go.Sort Go.Shelf

attribute [local go_sem] Oper.semAt_some

theorem object_caught_idle_in (n : Nat) (p : Addr) (cv : Value) (w : World) :
    CallsDIn Fence.wide n Tryz.prog 49 #[.pointer (some p), cv] .returning w fun e u' w' => e = .returned (.tuple #[]) ∧ u' = .returning ∧ w' = w := by
  refine callsDIn_of_wpSIn Tryz.func49 rfl trivial fun c₀ cs hu => ?_
  apply wpSIn_seq
  apply wpSIn_region
  simp [wpOpsSIn, go_sem, recoverD, hu, Tryz.ntmps49, Exit.thenS]
  change Code.wpSIn Fence.wide n Tryz.prog _ _ { tmps := #[.pointer (some p), cv, undef, undef, .nilIface, .nilIface, undef, undef, undef, undef, undef, undef, undef, undef], defers := [] } _ _
  refine wpSIn_of_wpIn rfl (wpIn_wide.2 ?_)
  go_wp2_with fail
  refine ⟨rfl, .returning, ?_, _, results_none rfl _ _ _, rfl, rfl, rfl⟩
  cases c₀
  simp_all

theorem pairs_any (p : Option Addr) (n cap : Nat) (w : World) : Calls Tryz.prog 54 #[.slice p n cap] w fun e w' => e = .returned (.func (.func 73) #[] #[.pointer (some ⟨w.heap.size, 0, none⟩)]) ∧ w' = w.alloc (.cells #[.slice p n cap] 33) := by
  go_enter Tryz.func54, Tryz.ntmps54
  go_wp2
  exact bodyPost_ret (v := .func (.func 73) #[] #[.pointer (some ⟨w.heap.size, 0, none⟩)]) (by simp [results, Tryz.results54, go_sem]) rfl ⟨rfl, rfl⟩

set_option maxHeartbeats 1000000 in
theorem pairs_none {α : Type} (encs : α → Array Value) (Kp : World → World → Prop) (n bx cap : Nat) (p : Option Addr) (w : World) (hbx : w.cell? ⟨bx, 0, none⟩ = some (.slice p 0 cap)) :
    IterX Fence.wide n Tryz.prog 73 #[.pointer (some ⟨bx, 0, none⟩)] encs Kp (fun ys => ys = []) (fun pre => pre <+: []) [] w := by
  intro l J Jx W hW hJ hJx hY h0
  clear hY
  have c0 := (hW.cell (World.block_lt_of_cell? w _ hbx)).trans hbx
  refine callsIn_of_wp Tryz.func73 rfl trivial ?_ rfl
  simp only [Tryz.ntmps73, List.size_toArray, List.length_cons, List.length_nil, Nat.reduceAdd, Nat.reduceSub, Array.replicate_succ, Array.replicate_zero, List.push_toArray, List.append_toArray, List.nil_append, List.cons_append]
  refine wpIn_scope_wide ?_
  refine wpIn_wide.2 ?_
  go_wp2
  refine wp_label ?_
  go_wp2
  refine wp_loop_rounds 1 ?_
  rw [rounds_succ]
  go_wp2
  rw [noGoto_normal]
  go_end0
  exact ⟨⟨_, rfl⟩, .inl ⟨[], rfl, h0⟩⟩

/-- An object that is a segment. -/
def segO (id la a b c d : Int) (s : Value) : Value := .agg #[.int .i64 id, .int .i64 la, .bool true, .int .i64 a, .int .i64 b, .int .i64 c, .int .i64 d, s]

set_option maxHeartbeats 4000000 in
set_option maxRecDepth 100000 in
theorem objCheck_in (id la a b c d : Int) (p : Option Addr) (cap : Nat) (w : World) (h1 : 1 ≤ id) (h2 : id ≤ 2147483647) (h3 : 0 ≤ la) (h4 : la < 16) (hs : sgE a b c d = 0) :
    CallsIn Fence.wide 6 Tryz.prog 28 #[segO id la a b c d (.slice p 0 cap)] w fun e w' => e = .returned (.int .i64 0) ∧ Below w.heap.size w w' := by
  obtain ⟨W, hW⟩ : ∃ V, V = (w.alloc (.cells #[.int .i64 id, .int .i64 la, .bool true, .int .i64 a, .int .i64 b, .int .i64 c, .int .i64 d, .slice p 0 cap] 37)).alloc (.cells #[.int .i64 0] 25) := ⟨_, rfl⟩
  have hb : Below w.heap.size w W := by rw [hW]; exact ((Below.refl _ w).alloc (Nat.le_refl _) _).alloc (by rw [World.size_alloc]; omega) _
  obtain ⟨b0, hb0⟩ : ∃ b0, b0 = w.heap.size := ⟨_, rfl⟩
  have hk : W.heap[b0]? = some (.cells #[.int .i64 id, .int .i64 la, .bool true, .int .i64 a, .int .i64 b, .int .i64 c, .int .i64 d, .slice p 0 cap] 37 (0, 0)) := by rw [hW, hb0]; exact block_alloc_old _ (block_alloc_new w _)
  have hk1 : W.heap[b0 + 1]? = some (.cells #[.int .i64 0] 25 (0, 0)) := by
    have := block_alloc_new (w.alloc (.cells #[.int .i64 id, .int .i64 la, .bool true, .int .i64 a, .int .i64 b, .int .i64 c, .int .i64 d, .slice p 0 cap] 37)) (.cells #[.int .i64 0] 25)
    rw [World.size_alloc] at this
    rw [hW, hb0]; exact this
  have HB := Lib.hid hb
  have HB0 := Lib.hid hb0
  have HK := Lib.hid hk
  have HK1 := Lib.hid hk1
  clear hb hk hk1
  unfold segO
  refine callsIn_of_wp_marks Tryz.func28 rfl trivial ?_ rfl
  simp only [Tryz.ntmps28, List.size_toArray, List.length_cons, List.length_nil, Nat.reduceAdd, Nat.reduceSub, Array.replicate_succ, Array.replicate_zero, List.push_toArray, List.append_toArray, List.nil_append, List.cons_append]
  refine wpIn_wide.2 ?_
  go_upto_region 1 with fail
  rw [← hW, ← hb0]
  clear hW hb0
  have c0 := cell_of (o := 0) (v := .int .i64 id) HK.out rfl
  have c1 := cell_of (o := 1) (v := .int .i64 la) HK.out rfl
  go_wp2_with fail
  refine (object_must_true _ _).mono ?_
  rintro e w0 ⟨rfl, rfl⟩
  have c2 := cell_of (o := 2) (v := .bool true) HK.out rfl
  have c3 := cell_of (o := 3) (v := .int .i64 a) HK.out rfl
  have c4 := cell_of (o := 4) (v := .int .i64 b) HK.out rfl
  have c5 := cell_of (o := 5) (v := .int .i64 c) HK.out rfl
  have c6 := cell_of (o := 6) (v := .int .i64 d) HK.out rfl
  have c7 := cell_of (o := 7) (v := .slice p 0 cap) HK.out rfl
  have hw := wkt_seg a b c d p 0 cap W
  rw [if_pos rfl, hs] at hw
  have HS := Lib.hid hw
  clear hw
  go_wp2_with fail
  refine HS.out.mono ?_
  rintro e w1 ⟨rfl, hb1⟩
  have k0 := (hb1.block b0 (lt_of_block HK.out)).trans HK.out
  have k1 := (hb1.block (b0 + 1) (lt_of_block HK1.out)).trans HK1.out
  have hB1 := HB.out.trans (hb1.mono HB.out.size)
  clear c0 c1 c2 c3 c4 c5 c6 c7 HS HK HK1 HB hb1
  obtain ⟨V, hV⟩ : ∃ V, V = w1.setCell ⟨b0 + 1, 0, none⟩ (.int .i64 0) := ⟨_, rfl⟩
  have hBV : Below w.heap.size w V := by rw [hV]; exact hB1.setCell (p := ⟨b0 + 1, 0, none⟩) (by show w.heap.size ≤ b0 + 1; rw [HB0.out]; omega) _
  have q0 : V.heap[b0]? = some (.cells #[.int .i64 id, .int .i64 la, .bool true, .int .i64 a, .int .i64 b, .int .i64 c, .int .i64 d, .slice p 0 cap] 37 (0, 0)) := by rw [hV]; exact (block_setCell_other _ (by show b0 ≠ b0 + 1; omega)).trans k0
  have q1 : V.heap[b0 + 1]? = some (.cells #[.int .i64 0] 25 (0, 0)) := by rw [hV]; exact block_setCell (.int .i64 0) k1
  have HBV := Lib.hid hBV
  have HQ0 := Lib.hid q0
  have HQ1 := Lib.hid q1
  clear hB1 hBV q0 q1 k0
  have f1 := free_of (o := 0) k1
  have e1 := cell_of (o := 0) (v := .int .i64 0) k1 rfl
  clear k1
  go_upto_region 4 with fail
  rw [← hV]
  clear hV f1 e1
  have e1 := cell_of (o := 0) (v := .int .i64 0) HQ1.out rfl
  go_wp2_with fail
  refine (object_must_true _ _).mono ?_
  rintro e w2 ⟨rfl, rfl⟩
  have c7 := cell_of (o := 7) (v := .slice p 0 cap) HQ0.out rfl
  go_wp2_with fail
  refine wp_loop_rounds 1 ?_
  rw [rounds_succ]
  go_wp2
  obtain ⟨bp, hbp⟩ : ∃ bp, bp = V.heap.size := ⟨_, rfl⟩
  obtain ⟨U, hU⟩ : ∃ U, U = V.alloc (.cells #[.slice p 0 cap] 33) := ⟨_, rfl⟩
  have hup : U.heap[bp]? = some (.cells #[.slice p 0 cap] 33 (0, 0)) := by rw [hU, hbp]; exact block_alloc_new V _
  have hbU : Below V.heap.size V U := by rw [hU]; exact (Below.refl _ _).alloc (Nat.le_refl _) _
  rw [← hU, ← hbp]
  have hit : ∀ n, IterX Fence.wide n Tryz.prog 73 #[.pointer (some ⟨bp, 0, none⟩)] (fun _ : Unit => #[.agg #[.slice none 0 0, .slice none 0 0]]) (fun _ _ => True) (fun ys => ys = []) (fun pre => pre <+: []) [] U := fun n => pairs_none _ _ n bp cap p U (cell_of hup rfl)
  have HBU := Lib.hid (HBV.out.trans (hbU.mono HBV.out.size))
  have HU1 := Lib.hid ((hbU.block (b0 + 1) (lt_of_block HQ1.out)).trans HQ1.out)
  have HIT := Lib.hid hit
  clear hU hbp hup hbU hit e1 c7 HQ0 HQ1 HBV
  refine (wpIn_wide (n := 6)).1 ?_
  refine range_lawX (n := 6) rfl (by omega) (gf := 73) (lb := #[.pointer (some ⟨bp, 0, none⟩)]) rfl trivial (enters_of Tryz.func73 (by kernel_rfl) rfl) (HIT.out 5) (fun _ _ => trivial) (fun _ _ _ _ _ _ => trivial) (fun _ => rfl)
    (fun (pre : List Unit) W => Boxed W (b0 + 1) 25 (.int .i64 0) ∧ Below w.heap.size w W)
    (fun c (pre : List Unit) W => False) ?hI0 ?hIx0 ⟨HU1.out, HBU.out⟩ (fun D x a' W => True) ?hAx0 ?assign0 ?body0 ?done0 ?stop0
  case hI0 => exact OwnFrom.and (Own.from (boxed_own (b0 + 1) 25 (fun _ : List Unit => .int .i64 0)) _) (ownFrom_below (Nat.le_refl _) HBU.out.size)
  case hIx0 => exact fun _ _ _ _ _ h => h.elim
  case hAx0 => exact fun _ _ _ _ _ _ _ _ _ _ => trivial
  case assign0 =>
    rintro l pre x W K ⟨hbx, hBw⟩ hK
    gi_wp2
    exact hK _ _ (KeepsOthers.alloc _ _) trivial ⟨hbx.alloc _, hBw.alloc hBw.size _⟩ trivial
  case body0 =>
    intro l D pre x a' W h1 h2 h3 hp
    obtain ⟨r, hr⟩ := hp
    simp at hr
  case done0 =>
    rintro D xs W hD hxs ⟨h1, h2⟩ hm
    have HM := Lib.hid hm
    have HH1 := Lib.hid h1
    have HH2 := Lib.hid h2
    have e1 := free_of (o := 0) h1
    have e2 := cell_of (o := 0) (v := .int .i64 0) h1 rfl
    clear hm h1 h2 HIT
    go_wp2
    obtain ⟨X, hX⟩ : ∃ X, X = W.setCell ⟨b0 + 1, 0, none⟩ (.int .i64 0) := ⟨_, rfl⟩
    have hDb : b0 + 1 ≠ D := by
      rintro rfl
      have h1 := HM.out
      rw [show W.heap[b0 + 1]? = _ from HH1.out] at h1
      cases h1
    have hDw : w.heap.size ≤ D := Nat.le_trans HBU.out.size hD
    have hm : X.heap[D]? = some (.deferred (some [])) := by rw [hX]; exact (block_setCell_other _ (fun h => hDb h.symm)).trans HM.out
    have hv : X.heap[b0 + 1]? = some (.cells #[.int .i64 0] 25 (0, 0)) := by rw [hX]; exact block_setCell (.int .i64 0) HH1.out
    have hb : Below w.heap.size w X := by rw [hX]; exact HH2.out.setCell (p := ⟨b0 + 1, 0, none⟩) (by show w.heap.size ≤ b0 + 1; rw [HB0.out]; omega) _
    rw [← hX]
    refine ⟨by simp, .inl ⟨D, _, rfl, run_takeDeferred hm, ?_⟩⟩
    have hv' := cell_of (o := 0) (v := .int .i64 0) ((World.putObj_heap_other hDb).trans hv : (X.putObj D (.deferred none)).heap[b0 + 1]? = _) rfl
    refine ⟨by simp, .inr ⟨fun h => (by cases h), _, _, 49, _, rfl, rfl, fun _ _ => trivial, (object_caught_idle_in _ _ _ _).mono ?_⟩⟩
    rintro e u' w' ⟨rfl, rfl, rfl⟩
    exact ⟨.int .i64 0, by simp [results, Tryz.f28, go_sem, hv'], rfl, hb.trans (belowK_b (w := w) (n₀ := w.heap.size) (Nat.le_refl _) _ D _ _ hDw hm rfl rfl)⟩
  case stop0 => exact fun D c pre W hD hp h => h.elim

theorem objCheck_any (id la a b c d : Int) (p : Option Addr) (cap : Nat) (w : World) (h1 : 1 ≤ id) (h2 : id ≤ 2147483647) (h3 : 0 ≤ la) (h4 : la < 16) (hs : sgE a b c d = 0) :
    Calls Tryz.prog 28 #[segO id la a b c d (.slice p 0 cap)] w fun e w' => e = .returned (.int .i64 0) ∧ Below w.heap.size w w' := callsIn_wide.1 (objCheck_in id la a b c d p cap w h1 h2 h3 h4 hs)
end Go.Proofs.YticconhcphocbaaGreatDoor
