/- The walk of Top. -/
import Derived.Test.YtnaeiffaabeokaaTop
namespace Go.Proofs.Ytnaeiffaabeokaa
open Go.RowKit Go.Sort Go.Shelf

attribute [local go_sem] Oper.semAt_some

def topW (l : List Int) : Int := l.foldl (fun _ x => wrap64 (x + 1)) 0
theorem topW_snoc (pre : List Int) (x : Int) : topW (pre ++ [x]) = wrap64 (x + 1) := by simp [topW]

/-- The top of a set. -/
def TopIs (T : List Int) (t : Int) : Prop := (T = [] ∧ t = 0) ∨ ((∃ x ∈ T, t = x + 1) ∧ ∀ x ∈ T, x < t)

theorem topW_is {ss T : List Int} (hp : ss.Perm T) (hs : ss.Pairwise (· ≤ ·)) (hr : ∀ x ∈ T, 0 ≤ x ∧ x < 65536) : TopIs T (topW ss) := by
  rcases List.eq_nil_or_concat ss with rfl | ⟨l, x, rfl⟩
  · left; exact ⟨List.nil_perm.1 hp, rfl⟩
  · right
    rw [List.concat_eq_append] at *
    rw [topW_snoc]
    have hx : x ∈ T := hp.subset (by simp)
    have hr' := hr x hx
    have e : wrap64 (x + 1) = x + 1 := by unfold wrap64; omega
    rw [e]
    refine ⟨⟨x, hx, rfl⟩, fun y hy => ?_⟩
    have hy' := hp.symm.subset hy
    rw [List.pairwise_append] at hs
    rcases List.mem_append.1 hy' with h | h
    · have := hs.2.2 y h x (by simp); omega
    · simp at h; omega

set_option maxRecDepth 100000 in
set_option maxHeartbeats 2000000 in
theorem top_any (a h m : Nat) (g : Option Nat) (many high : Int) (d : Array Int) (T : List Int) (w : World) (H : IsArena w a h m g many high d T) (hlen : T.length < 1000000) (hr : ∀ x ∈ T, 0 ≤ x ∧ x < 65536) :
    Calls Try.prog 13 #[.pointer (some ⟨a, 0, none⟩)] w fun e w' => ∃ t, e = .returned (.int .i64 t) ∧ TopIs T t ∧ Below w.heap.size w w' := by
  refine (callsIn_wide (n := 5)).1 ?_
  have B1 : Below w.heap.size w (w.alloc (.cells #[.int .i64 0] 3)) := (Below.refl _ w).alloc (Nat.le_refl _) _
  have bS := Boxed.new w 3 (.int .i64 0)
  have hA := callsIn_wide (n := 4) |>.2 (all_any a h m g many high d T _ (H.keep (Chg.of_below (S := fun _ => False) B1) (by simp)) (by omega))
  have HA := Lib.hid hA
  clear hA H
  refine callsIn_of_wp_marks Try.func13 rfl trivial ?_ rfl
  simp only [Try.ntmps13, List.size_toArray, List.length_cons, List.length_nil, Nat.reduceAdd, Nat.reduceSub, Array.replicate_succ, Array.replicate_zero, List.push_toArray, List.append_toArray, List.nil_append, List.cons_append]
  gi_wp2_with (refine ⟨trivial, ?_⟩; gi_at_call 25; refine HA.out.mono ?_; rintro e w1 ⟨B, v, ss, rfl, hB, hc, ho, hp, hpw, hb1⟩)
  rw [World.size_alloc] at hB ho hb1
  have bS1 : Boxed w1 w.heap.size 3 (.int .i64 0) := (hb1.block _ (Nat.lt_succ_self _)).trans bS
  have B2 : Below w.heap.size w w1 := B1.trans (hb1.mono (Nat.le_succ _))
  have hz1 : w.heap.size + 1 ≤ w1.heap.size := by have := hb1.size; simpa using this
  have hsl : ss.length < 1000000 := by rw [hp.length_eq]; exact hlen
  refine wpIn_rangeFunc_ownF rfl (by omega) (gf := 34) (lb := #[.pointer (some ⟨B, 0, none⟩)]) rfl trivial (enters_of Try.func34 (by kernel_rfl) rfl)
    (each_stops 4 (by omega) B (w.heap.size + 1) w.heap.size (by omega) v ss (by omega) w1 (World.block_lt_of_cell? w1 _ hc) hc ho) (fun h k => h.t k) (fun W l o o' _ hl ho _ => KpN.put W l o o' hl ho) (Below.refl _ _) (fun _ => rfl)
    (fun pre W => Boxed W w.heap.size 3 (.int .i64 (topW pre)) ∧ Below w.heap.size w W)
    (fun _ _ _ => False)
    ?hI
    (fun _ _ _ _ _ hs _ _ => hs)
    ⟨bS1, B2⟩
    (fun x => { tmps := #[.pointer (some ⟨a, 0, none⟩), undef, .pointer (some ⟨w.heap.size, 0, none⟩), .int .i64 x, .pointer (some ⟨a, 0, none⟩), .func (.func 34) #[] #[.pointer (some ⟨B, 0, none⟩)], .int .i64 x, undef, undef, undef], defers := [] }) ?assign ?body ?done ?stop
  case hI => 
    exact OwnFrom.and (Own.from (boxed_own _ _ _) _) (ownFrom_below (Nat.le_refl _) (by omega))
  case assign =>
    intro l x W K hK
    gi_wp2
    exact hK
  case body =>
    rintro l pre x W ⟨bW, hBW⟩ _
    have c := bW.cell
    have f := bW.frozen
    gi_wp2
    refine ⟨KeepsOthers.setCell _ _ _, KpN.setCell W _ _, ?_, hBW.setCell (p := ⟨w.heap.size, 0, none⟩) (Nat.le_refl _) _⟩
    rw [topW_snoc]
    exact bW.set _
  case done =>
    rintro D ys W hD rfl ⟨bW, hBW⟩ hK
    have c := bW.cell
    have f := bW.frozen
    gi_wp2
    have hK' := (KeepsOthers.setCell W ⟨w.heap.size, 0, none⟩ (.int .i64 (topW ys))).same D _ hK rfl
    refine ⟨by simp, .inl ⟨_, _, rfl, run_takeDeferred hK', ?_⟩⟩
    have hc5 := cell_kept (bW.set (.int .i64 (topW ys))).cell (grownBy_putObj' _ D (.deferred none)) (fun r e => by cases e; exact ⟨_, hK', rfl⟩)
    refine ⟨.int .i64 (topW ys), ?_, topW ys, rfl, topW_is hp hpw hr, (hBW.setCell (p := ⟨w.heap.size, 0, none⟩) (Nat.le_refl _) _).trans (belowK_b (w := w) (Nat.le_refl _) _ D _ _ (by omega) hK' rfl rfl)⟩
    simp [results, Try.f13, go_sem, hc5]
  case stop =>
    rintro D c pre W _ _ h _
    exact h.elim
end Go.Proofs.Ytnaeiffaabeokaa
