/- Backward: the steps, the last one first. -/
import Derived.Test.YticconhcphocbaaGreatDoorJ9
import Derived.Test.YticconhcphocbaaGreatDoorKp
namespace Go.Proofs.YticconhcphocbaaGreatDoor
open Go.RowKit Go.Sort Go.Shelf

attribute [local go_sem] Oper.semAt_some

theorem back_any (p : Option Addr) (n cap : Nat) (w : World) : Calls Tryz.prog 79 #[.slice p n cap] w fun e w' => e = .returned (.func (.func 105) #[] #[.pointer (some ⟨w.heap.size, 0, none⟩)]) ∧ w' = w.alloc (.cells #[.slice p n cap] 46) := by
  go_enter Tryz.func79, Tryz.ntmps79
  go_wp2
  exact bodyPost_ret (v := .func (.func 105) #[] #[.pointer (some ⟨w.heap.size, 0, none⟩)]) (by simp [results, Tryz.results79, go_sem]) rfl ⟨rfl, rfl⟩

/-- The steps, the last one first, each with its number. -/
def backs (L : List (Bool × Int)) : List (Nat × (Bool × Int)) := L.zipIdx.reverse.map fun x => (x.2, x.1)
def bkV (x : Nat × (Bool × Int)) : Array Value := #[.int .i64 (x.1 : Nat), .agg (sv x.2).toArray]

theorem backs_step (L : List (Bool × Int)) (i : Nat) (hi : i < L.length) : (backs L).take (L.length - 1 - i) ++ [(i, L[i])] = (backs L).take (L.length - i) := by
  have hg : (backs L)[L.length - 1 - i]? = some (i, L[i]) := by
    unfold backs
    rw [List.getElem?_map, List.getElem?_reverse (by simp; omega)]
    simp only [List.length_zipIdx]
    rw [show L.length - 1 - (L.length - 1 - i) = i by omega, List.getElem?_zipIdx]
    simp [List.getElem?_eq_getElem hi]
  rw [show L.length - i = L.length - 1 - i + 1 by omega, List.take_add_one, hg]
  rfl
theorem backs_at (L : List (Bool × Int)) (i : Nat) (hi : i < L.length) : ((backs L).take (L.length - 1 - i)) ++ [(i, L[i])] <+: backs L := by
  rw [backs_step L i hi]
  exact List.take_prefix _ _

theorem Stp.cells {Z : Nat → Prop} {w : World} {b off cap : Nat} {L : List (Bool × Int)} (h : Stp Z w (.slice (some ⟨b, off, none⟩) L.length cap) L) {i : Nat} (hi : i < L.length) :
    w.cell? ⟨b, off + i * 9, none⟩ = some (.bool L[i].1) ∧ w.cell? ⟨b, off + i * 9 + 1, none⟩ = some (Ii L[i].2) ∧ w.cell? ⟨b, off + i * 9 + 2, none⟩ = some (Ii 0) ∧ w.cell? ⟨b, off + i * 9 + 3, none⟩ = some (.bool true) ∧ w.cell? ⟨b, off + i * 9 + 4, none⟩ = some (Ii L[i].2) ∧ w.cell? ⟨b, off + i * 9 + 5, none⟩ = some (Ii 0) ∧ w.cell? ⟨b, off + i * 9 + 6, none⟩ = some (Ii L[i].2) ∧ w.cell? ⟨b, off + i * 9 + 7, none⟩ = some (Ii 1) ∧ w.cell? ⟨b, off + i * 9 + 8, none⟩ = some (.slice none 0 0) := by
  obtain ⟨b', off', c, e, hc, hzb, hcell⟩ := Rw.at_ h hi
  cases e
  have key : ∀ k u, k < 9 → (sv L[i])[k]? = some u → w.cell? ⟨b, off + i * 9 + k, none⟩ = some u := by
    intro k u hk hu
    obtain ⟨u', h1, h2⟩ := hcell k hk
    rw [svs_get L i L[i] (List.getElem?_eq_getElem hi) k u hu] at h1
    cases h1
    exact h2
  exact ⟨key 0 _ (by omega) rfl, key 1 _ (by omega) rfl, key 2 _ (by omega) rfl, key 3 _ (by omega) rfl, key 4 _ (by omega) rfl, key 5 _ (by omega) rfl, key 6 _ (by omega) rfl, key 7 _ (by omega) rfl, key 8 _ (by omega) rfl⟩

set_option maxHeartbeats 4000000 in
set_option maxRecDepth 100000 in
theorem back_iter (Z : Nat → Prop) (n bx : Nat) (s : Value) (L : List (Bool × Int)) (w : World) (hbx : w.heap[bx]? = some (.cells #[s] 46 (0, 0))) (hs : Stp Z w s L) (hz : Z bx) (hL : L.length ≤ 1000000) :
    IterX Fence.wide n Tryz.prog 105 #[.pointer (some ⟨bx, 0, none⟩)] bkV (KpZ Z) (fun ys => ys = backs L) (fun pre => pre <+: backs L) (backs L) w := by
  intro l J Jx W hW hJ hJx hY h0
  obtain ⟨p, cap, rfl⟩ := Rw.slice hs
  have HK := Lib.hid ((hW.block bx (lt_of_block hbx)).trans hbx)
  have HS := Lib.hid (Rw.later hs hW)
  have HY := Lib.hid hY
  clear hY hbx hs
  have c0 := cell_of (o := 0) (v := .slice p L.length cap) HK.out rfl
  refine callsIn_of_wp Tryz.func105 rfl trivial ?_ rfl
  simp only [Tryz.ntmps105, List.size_toArray, List.length_cons, List.length_nil, Nat.reduceAdd, Nat.reduceSub, Array.replicate_succ, Array.replicate_zero, List.push_toArray, List.append_toArray, List.nil_append, List.cons_append]
  gi_wp2
  clear c0
  gi_loopw [3] (fun s3 wr => ∃ (m : Nat) (k : Int), s3 = .int .i64 k ∧ k = (m : Int) - 1 ∧ m ≤ L.length ∧ Hid (KpZ Z W wr) ∧ Hid (J ((backs L).take (L.length - m)) wr)) (fun s3 _ => (intOf s3 + 1).toNat)
  case atStart =>
    refine ⟨L.length, (L.length : Int) - 1, rfl, rfl, Nat.le_refl _, Lib.hid (KpZ.refl _ _), Lib.hid ?_⟩
    rw [Nat.sub_self]
    exact h0
  case round =>
    obtain ⟨m, k, rfl, hk, hm, HKr, HJr⟩ := hrel
    have hb := HKr.out bx _ _ _ hz HK.out
    have c0 := cell_of (o := 0) (v := .slice p L.length cap) hb rfl
    cases m with
    | zero =>
      have hk0 : ¬ (0 ≤ k) := by omega
      gi_wp2
      go_end0
      have := HJr.out
      rw [Nat.sub_zero, List.take_of_length_le (by simp [backs])] at this
      exact ⟨⟨_, rfl⟩, .inl this⟩
    | succ i =>
      obtain rfl : k = (i : Int) := by omega
      have hi : i < L.length := by omega
      have hrow := HS.out.kp HKr.out (fun k hk => hk)
      obtain ⟨b, off, c, e, hc, hzb, hcell⟩ := hrow.at_ hi
      obtain ⟨rfl, rfl⟩ : p = some ⟨b, off, none⟩ ∧ cap = c := by cases e; exact ⟨rfl, rfl⟩
      have hpre := backs_at L i hi
      have hJi := HJr.out
      rw [show L.length - (i + 1) = L.length - 1 - i by omega] at hJi
      obtain ⟨fn, tmps, assign, body, hy, hR⟩ := HY.out _ _ _ hJi hpre
      have hy' : (Instr.yield l #[.int .i64 (i : Nat), .agg #[.bool L[i].1, Ii L[i].2, Ii 0, .bool true, Ii L[i].2, Ii 0, Ii L[i].2, Ii 1, .slice none 0 0]]).run Tryz.prog wr = .ok (.round l fn tmps assign body) wr := hy
      clear hy
      obtain ⟨q0, q1, q2, q3, q4, q5, q6, q7, q8⟩ := Stp.cells hrow hi
      have HR := Lib.hid hR
      have HB := Lib.hid hb
      clear hR hrow hcell hb hJi e hk hm hc hzb
      have hi' : (i : Int) < L.length := by omega
      gi_wp2
      have HI := Lib.hid hi
      have HPR := Lib.hid hpre
      clear hpre q0 q1 q2 q3 q4 q5 q6 q7 q8 hi' c0
      refine ⟨fun h => (by cases h), HR.out.mono ?_⟩
      rintro e W2 (⟨rfl, hj2, hk2⟩ | ⟨rfl, hj2, hk2⟩)
      · have HK2 := Lib.hid (HKr.out.t hk2)
        have HJ2 := Lib.hid hj2
        clear hj2 hk2
        gi_wp2
        go_roundw
        case rel =>
          refine ⟨i, (i : Int) - 1, rfl, rfl, Nat.le_of_lt HI.out, HK2, Lib.hid ?_⟩
          have h1 := HJ2.out
          rw [← backs_step L i HI.out]
          exact h1
        case measure => simp [intOf]
      · have HJ2 := Lib.hid hj2
        clear hj2 hk2
        gi_wp2
        exact bodyPost_ret (v := .tuple #[]) (results_none rfl _ _ _) rfl ⟨⟨_, rfl⟩, .inr ⟨_, HPR.out, HJ2.out⟩⟩
end Go.Proofs.YticconhcphocbaaGreatDoor
