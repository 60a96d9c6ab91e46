/- The walks of All and Top. -/
import Derived.RangeFuncNested
import Derived.RangeFuncBound
import Derived.RangeFuncCalls
import Derived.RangeFuncLeaves
import Derived.Shelf.Abstract
import Derived.Shelf.RegionOpen
import Derived.OwnWalkIn
import Derived.TacticsInMore
import Derived.LoopNIn
import Derived.LoopIn
import Derived.Test.YtnaeiffaabeokaaCopy
namespace Go.Proofs.Ytnaeiffaabeokaa
open Go.RowKit Go.Sort Go.Shelf

theorem ownsRow_laterB {w W : World} {B : Nat} {v : Value} {n : Nat} {xs : List Value} (h : w.ownsRow B 3 1 v n xs) (hb : Below w.heap.size w W) : W.ownsRow B 3 1 v n xs := by
  refine ⟨h.1, ?_⟩
  rcases h.2 with e | ⟨k, cap, cur, rfl, hb0, hk, r⟩
  · exact .inl e
  · exact .inr ⟨k, cap, cur, rfl, hb0, (hb.block k (lt_of_block hk)).trans hk, r⟩

theorem all_any (a h m : Nat) (g : Option Nat) (many high : Int) (d : Array Int) (T : List Int) (w : World) (H : IsArena w a h m g many high d T) (hlen : T.length < 1073741824) :
    Calls Try.prog 25 #[.pointer (some ⟨a, 0, none⟩)] w fun e w' => ∃ (B : Nat) (v : Value) (ss : List Int), e = .returned (.func (.func 34) #[] #[.pointer (some ⟨B, 0, none⟩)]) ∧ w.heap.size ≤ B ∧ w'.cell? ⟨B, 0, none⟩ = some v ∧
      w'.ownsRow w.heap.size 3 1 v ss.length (ss.map In) ∧ ss.Perm T ∧ ss.Pairwise (· ≤ ·) ∧ Below w.heap.size w w' := by
  have c3 := H.base.c3
  have HS := Lib.hid H.set
  clear H
  go_enter Try.func25, Try.ntmps25
  go_wp2_with fail
  refine (none_any _ _ _ c3).mono ?_
  rintro e w' ⟨rfl, rfl⟩
  go_wp2_with fail
  refine (keys_any _ _).mono ?_
  rintro e w1 ⟨rfl, rfl⟩
  have hB1 : Below w.heap.size w (w.alloc (.cells #[.map (some m)] 43)) := (Below.refl _ w).alloc (Nat.le_refl _) _
  have hs := sorted_any m w.heap.size T _ (HS.out.later hB1) (block_alloc_new w _) hlen
  rw [World.size_alloc] at hs
  go_wp2_with fail
  refine hs.mono ?_
  rintro e w2 ⟨v, ss, rfl, hp, hpw, ho, hb2⟩
  obtain ⟨p, k, cap, rfl⟩ := slice_of ho
  go_wp2
  go_ret
  have hb2' : Below w.heap.size w w2 := hB1.trans (hb2.mono (Nat.le_succ _))
  have hsz : w.heap.size ≤ w2.heap.size := hb2'.size
  have hB3 : Below w2.heap.size w2 (w2.alloc (.cells #[.slice p k cap] 40)) := (Below.refl _ w2).alloc (Nat.le_refl _) _
  exact ⟨w2.heap.size, .slice p k cap, ss, rfl, hsz, cell_of (block_alloc_new w2 _) rfl, ownsRow_laterB (ownsRow_base ho (Nat.le_succ _)) hB3, hp, hpw, hb2'.alloc hsz _⟩

theorem wpIn_scope_wide {n : Nat} {c : Code} {P : Program} {Q : Exit → Act → World → Prop} {a : Act} {w : World} (h : c.wpIn Fence.wide n P (Exit.noGoto Q) a w) : (Code.scope c).wpIn Fence.wide n P Q a w :=
  wpIn_wide.2 (wp_scope_straight (wpIn_wide.1 h))

@[go_sem] theorem noGoto_normal {Q : Exit → Act → World → Prop} {a : Act} {w : World} : Exit.noGoto Q .normal a w = Q .normal a w := rfl
attribute [local go_sem] Oper.semAt_some

def upto (f : Nat → Int) (k : Nat) : List Int := (List.range k).map f
theorem upto_succ (f : Nat → Int) (k : Nat) : upto f (k + 1) = upto f k ++ [f k] := by simp [upto, List.range_succ]
theorem upto_length (f : Nat → Int) (k : Nat) : (upto f k).length = k := by simp [upto]
theorem upto_all (zs : List Int) : upto (fun j => zs[j]?.getD 0) zs.length = zs := by
  apply List.ext_getElem
  · simp [upto]
  · intro i h1 h2
    simp [upto, h2]

/-- Every block of cells but c lies as it lay. -/
def KpN (c : Nat) (W W' : World) : Prop := ∀ k cs t fr, k ≠ c → W.heap[k]? = some (.cells cs t fr) → W'.heap[k]? = some (.cells cs t fr)
theorem KpN.t {c : Nat} {A B C : World} (h : KpN c A B) (k : KpN c B C) : KpN c A C := fun i cs t fr hi e => k i cs t fr hi (h i cs t fr hi e)
theorem KpN.refl (c : Nat) (A : World) : KpN c A A := fun _ _ _ _ _ e => e
theorem KpN.put {c : Nat} (W : World) (l : Nat) (o o' : Obj) (hl : W.heap[l]? = some o) (ho : o.isCells = false) : KpN c W (W.putObj l o') := fun k cs t fr hk e => by
  have hne : k ≠ l := by rintro rfl; rw [e] at hl; cases hl; simp [Obj.isCells] at ho
  show (W.heap.setIfInBounds l o')[k]? = _
  rw [Array.getElem?_setIfInBounds_ne (Ne.symm hne)]
  exact e
theorem KpN.setCell (W : World) (c : Nat) (v : Value) : KpN c W (W.setCell ⟨c, 0, none⟩ v) := fun _ _ _ _ hk e => (block_setCell_other v hk).trans e
theorem KpN.cell {c : Nat} {A B : World} (h : KpN c A B) {p : Addr} {v : Value} (hp : p.block ≠ c) (e : A.cell? p = some v) : B.cell? p = some v := by
  have hk : ∃ cs t fr, A.heap[p.block]? = some (.cells cs t fr) := by
    unfold World.cell? at e
    split at e
    · exact ⟨_, _, _, by assumption⟩
    · cases e
  obtain ⟨cs, t, fr, hk⟩ := hk
  exact (World.cell?_of_block ((h _ _ _ _ hp hk).trans hk.symm)).trans e

set_option maxRecDepth 100000 in
set_option maxHeartbeats 2000000 in
theorem each1_in (n : Nat) (hn : 1 ≤ n) (l Bs n₀ b off len cap : Nat) (zs : List Int) (hreach : len * 8 ≤ 140737488351232) (hb : b ≠ n₀) (J Jx : List Int → World → Prop)
    (hY : ∀ pre x W, J pre W → pre.length < len → YieldAt Fence.wide (n - 1) Try.prog l #[.int .i64 x] W fun e W' =>
      (e = .returned (.bool true) ∧ J (pre ++ [x]) W' ∧ KpN n₀ W W') ∨ (e = .returned (.bool false) ∧ Jx (pre ++ [x]) W'))
    (W : World) (hBs : W.cell? ⟨Bs, 0, none⟩ = some (.slice (some ⟨b, off, none⟩) len cap)) (hc : ∀ j, j < len → W.cell? ⟨b, off + j, none⟩ = some (.int .i64 (zs[j]?.getD 0))) (h0 : J [] W) :
    CallsIn Fence.wide n Try.prog 34 #[.func (.yield l) #[] #[], .pointer (some ⟨Bs, 0, none⟩)] W fun e W' => (∃ v, e = .returned v) ∧
      ((∃ ys, ys = upto (fun j => zs[j]?.getD 0) len ∧ J ys W') ∨ (∃ pre, (∃ k, k ≤ len ∧ pre = upto (fun j => zs[j]?.getD 0) k) ∧ Jx pre W')) := by
  refine callsIn_of_wp Try.func34 rfl trivial ?_ rfl
  simp only [Try.ntmps34, List.size_toArray, List.length_cons, List.length_nil, Nat.reduceAdd, Nat.reduceSub, Array.replicate_succ, Array.replicate_zero, List.push_toArray, List.append_toArray, List.nil_append, List.cons_append]
  gi_wp2
  refine wpIn_scope_wide ?_
  gi_wp2
  refine wpIn_label ?_
  simp only [Exit.then]
  gi_wp2
  gi_loopw [7] (fun i wr => ∃ k : Nat, k ≤ len ∧ i = .int .i64 k ∧ J (upto (fun j => zs[j]?.getD 0) k) wr ∧ KpN n₀ W wr)
    (fun i _ => len - (intOf i).toNat)
  case atStart => exact ⟨0, Nat.zero_le _, rfl, h0, KpN.refl _ _⟩
  case round =>
    obtain ⟨k, hk, rfl, hJs, hnx⟩ := hrel
    have hcx : k < len → wr.cell? ⟨b, off + k, none⟩ = some (.int .i64 (zs[k]?.getD 0)) := fun h => hnx.cell (p := ⟨b, off + k, none⟩) hb (hc k h)
    by_cases hlt : k < len
    · obtain ⟨fn, tmps, assign, body, hy, hR⟩ := hY _ (zs[k]?.getD 0) wr hJs (by rw [upto_length]; exact hlt)
      have hcx' := hcx hlt
      gi_wp2
      refine hR.mono ?_
      rintro e W3 (⟨rfl, hJ3, hk3⟩ | ⟨rfl, hJx3⟩)
      · gi_wp2
        go_roundw
        case rel => exact ⟨k + 1, by omega, by simp, by rw [upto_succ]; exact hJ3, hnx.t hk3⟩
        case measure => simp [intOf]; omega
      · gi_wp2
        rw [noGoto_normal]
        go_end0
        exact ⟨⟨_, rfl⟩, .inr ⟨_, ⟨k + 1, by omega, (upto_succ _ _).symm⟩, hJx3⟩⟩
    · obtain rfl : k = len := by omega
      gi_wp2
      rw [noGoto_normal]
      go_end0
      exact ⟨⟨_, rfl⟩, .inl ⟨_, rfl, hJs⟩⟩

set_option maxRecDepth 100000 in
set_option maxHeartbeats 1000000 in
theorem each1_nil_in (n l Bs : Nat) (J : List Int → World → Prop) (W : World) (hBs : W.cell? ⟨Bs, 0, none⟩ = some (.slice none 0 0)) (h0 : J [] W) :
    CallsIn Fence.wide n Try.prog 34 #[.func (.yield l) #[] #[], .pointer (some ⟨Bs, 0, none⟩)] W fun e W' => (∃ v, e = .returned v) ∧ J [] W' := by
  refine callsIn_of_wp Try.func34 rfl trivial ?_ rfl
  simp only [Try.ntmps34, List.size_toArray, List.length_cons, List.length_nil, Nat.reduceAdd, Nat.reduceSub, Array.replicate_succ, Array.replicate_zero, List.push_toArray, List.append_toArray, List.nil_append, List.cons_append]
  gi_wp2
  refine wpIn_scope_wide ?_
  gi_wp2
  refine wpIn_label ?_
  simp only [Exit.then]
  gi_wp2
  gi_loopw [7] (fun i wr => i = .int .i64 0 ∧ J [] wr) (fun _ _ => 0)
  case atStart => exact ⟨rfl, h0⟩
  case round =>
    obtain ⟨rfl, hJs⟩ := hrel
    gi_wp2
    rw [noGoto_normal]
    go_end0
    exact ⟨⟨_, rfl⟩, hJs⟩

theorem upto_take (zs : List Int) {k : Nat} (hk : k ≤ zs.length) : upto (fun j => zs[j]?.getD 0) k = zs.take k := by
  apply List.ext_getElem
  · simp [upto, hk]
  · intro i h1 h2
    have : i < zs.length := by simp [upto] at h1; omega
    simp [upto, this]

/-- The closure that All hands back, over its sorted row. -/
theorem each_stops (n : Nat) (hn : 1 ≤ n) (Bs n₀ c : Nat) (hcn : c < n₀) (v : Value) (zs : List Int) (hreach : zs.length * 8 ≤ 140737488351232) (w : World) (hBs : Bs < w.heap.size)
    (hc : w.cell? ⟨Bs, 0, none⟩ = some v) (hI : w.ownsRow n₀ 3 1 v zs.length (zs.map In)) :
    SeqStopsK Fence.wide n Try.prog 34 #[.pointer (some ⟨Bs, 0, none⟩)] (fun x : Int => #[Value.int .i64 x]) (KpN c) (fun ys => ys = zs) (fun pre => pre <+: zs) zs.length w := fun l J Jx W hW _ _ hY h0 => by
  have hc' := (hW.cell (p := ⟨Bs, 0, none⟩) hBs).trans hc
  rcases hI.2 with ⟨rfl, e⟩ | ⟨b, cap, cur, rfl, hb0, hb, r⟩
  · obtain rfl : zs = [] := by simpa using e
    exact (each1_nil_in n l Bs J W hc' h0).mono fun e W' ⟨he, hj⟩ => ⟨he, .inl ⟨_, rfl, hj⟩⟩
  · refine (each1_in n hn l Bs c b 0 zs.length cap zs hreach (by omega) J Jx hY W hc' (fun j hj => ?_) h0).mono ?_
    · refine (hW.cell (p := ⟨b, 0 + j, none⟩) (lt_of_block hb)).trans ?_
      rw [Nat.zero_add, hI.cellAt _ (by simpa using hj)]
      simp [hj]
    · rintro e W' ⟨he, ⟨ys, rfl, hj⟩ | ⟨pre, ⟨k, hk, rfl⟩, hj⟩⟩
      · exact ⟨he, .inl ⟨_, upto_all zs, hj⟩⟩
      · exact ⟨he, .inr ⟨_, by rw [upto_take zs hk]; exact List.take_prefix _ _, hj⟩⟩
end Go.Proofs.Ytnaeiffaabeokaa
