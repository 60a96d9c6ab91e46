/- Steps: what was done, one by one. -/
import Derived.Test.YticconhcphocbaaGreatDoorJ11
namespace Go.Proofs.YticconhcphocbaaGreatDoor
open Go.RowKit Go.Sort Go.Shelf

attribute [local go_sem] Oper.semAt_some

theorem steps_any (jb : Nat) (s u : Value) (p : Option Addr) (n cap : Nat) (op : Bool) (w : World) (h : JB w jb s op (.slice p n cap) u true) : Calls Tryz.prog 14 #[.pointer (some ⟨jb, 0, none⟩)] w fun e w' => e = .returned (.func (.func 33) #[] #[.pointer (some ⟨w.heap.size, 0, none⟩)]) ∧ Boxed w' w.heap.size 52 (.slice p n cap) ∧ Below w.heap.size w w' := by
  obtain ⟨V, hV⟩ : ∃ V, V = w.alloc (.cells #[.slice none 0 0] 52) := ⟨_, rfl⟩
  have hb : Below w.heap.size w V := by rw [hV]; exact (Below.refl _ w).alloc (Nat.le_refl _) _
  have hk : V.heap[w.heap.size]? = some (.cells #[.slice none 0 0] 52 (0, 0)) := by rw [hV]; exact block_alloc_new w _
  obtain ⟨b0, hb0⟩ : ∃ b0, b0 = w.heap.size := ⟨_, rfl⟩
  rw [← hb0] at hk
  have HJ := Lib.hid (h.later hb)
  have HN := Lib.hid (none_any jb s _ u op true V (h.later hb))
  have HB := Lib.hid hb
  have HB0 := Lib.hid hb0
  have HK := Lib.hid hk
  clear h hb hk
  go_enter Tryz.func14, Tryz.ntmps14
  go_upto_region 2 with fail
  rw [← hV, ← hb0]
  clear hV hb0
  go_wp2_with fail
  refine HN.out.mono ?_
  rintro e w1 ⟨rfl, rfl⟩
  obtain ⟨c0, c1, c2, c3, c4⟩ := HJ.out.c
  have f0 := free_of (o := 0) HK.out
  have e0 := cell_of (o := 0) (v := .slice none 0 0) HK.out rfl
  go_wp2
  refine bodyPost_ret (v := .func (.func 33) #[] #[.pointer (some ⟨b0, 0, none⟩)]) (by simp [results, Tryz.results14, go_sem]) rfl ⟨by rw [HB0.out], ?_, ?_⟩
  · rw [← HB0.out]
    exact block_setCell (o := 0) (.slice p n cap) HK.out
  · exact HB.out.setCell (p := ⟨b0, 0, none⟩) (by show w.heap.size ≤ b0; rw [HB0.out]; omega) _

def stV (x : Bool × Int) : Array Value := #[.agg (sv x).toArray]
theorem flat_at (G : List (List (Bool × Int))) (i j : Nat) (L : List (Bool × Int)) (hi : G[i]? = some L) (hj : j < L.length) : ((G.take i).flatten ++ L.take j) ++ [L[j]] <+: G.flatten := by
  have h1 : G = G.take i ++ (L :: G.drop (i + 1)) := by
    have hlt := (List.getElem?_eq_some_iff.1 hi).1
    have e := (List.getElem?_eq_some_iff.1 hi).2
    conv => lhs; rw [← List.take_append_drop i G, List.drop_eq_getElem_cons hlt, e]
  have h2 : G.flatten = (G.take i).flatten ++ (L ++ (G.drop (i + 1)).flatten) := by
    conv => lhs; rw [h1]
    rw [List.flatten_append, List.flatten_cons]
  rw [h2]
  have h3 : L = (L.take j ++ [L[j]]) ++ L.drop (j + 1) := by
    rw [List.append_assoc]
    conv => lhs; rw [← List.take_append_drop j L, List.drop_eq_getElem_cons hj]
    rfl
  refine ⟨L.drop (j + 1) ++ (G.drop (i + 1)).flatten, ?_⟩
  conv => rhs; rw [h3]
  simp only [List.append_assoc]
theorem take_snoc {α : Type} (L : List α) (j : Nat) (hj : j < L.length) : L.take j ++ [L[j]] = L.take (j + 1) := by
  rw [List.take_add_one, List.getElem?_eq_getElem hj]
  rfl
theorem flat_step (G : List (List (Bool × Int))) (i : Nat) (L : List (Bool × Int)) (hi : G[i]? = some L) : (G.take i).flatten ++ L = (G.take (i + 1)).flatten := by
  rw [List.take_add_one, hi, List.flatten_append]
  simp

set_option maxHeartbeats 4000000 in
set_option maxRecDepth 100000 in
theorem steps_iter (Z : Nat → Prop) (n bx : Nat) (d : Value) (G : List (List (Bool × Int))) (w : World) (hbx : Boxed w bx 52 d) (hs : Grp Z w d G) (hG : G.length ≤ 1000000) (hL : ∀ L ∈ G, L.length ≤ 1000000) :
    IterX Fence.wide n Tryz.prog 33 #[.pointer (some ⟨bx, 0, none⟩)] stV (KpZ Z) (fun ys => ys = G.flatten) (fun pre => pre <+: G.flatten) G.flatten w := by
  intro l J Jx W hW hJ hJx hY h0
  obtain ⟨xs, hrow, hel⟩ := hs
  obtain ⟨p, cap, rfl⟩ := Rw.slice hrow
  have HK := Lib.hid ((hW.block bx (lt_of_block hbx)).trans hbx)
  have HR := Lib.hid (Rw.later hrow hW)
  have HEL := Lib.hid (fun i L h => (hel i L h).imp fun v hv => And.intro hv.1 (Rw.later hv.2 hW))
  have HY := Lib.hid hY
  clear hY hbx hrow hel
  have c0 := cell_of (o := 0) (v := .slice p G.length cap) HK.out rfl
  refine callsIn_of_wp Tryz.func33 rfl trivial ?_ rfl
  simp only [Tryz.ntmps33, List.size_toArray, List.length_cons, List.length_nil, Nat.reduceAdd, Nat.reduceSub, Array.replicate_succ, Array.replicate_zero, List.push_toArray, List.append_toArray, List.nil_append, List.cons_append]
  refine wpIn_scope_wide ?_
  gi_wp2
  refine wpIn_label ?_
  simp only [Exit.then]
  gi_wp2
  clear c0
  gi_loopw [9] (fun s9 wr => ∃ i : Nat, s9 = .int .i64 i ∧ i ≤ G.length ∧ Hid (KpZ Z W wr) ∧ Hid (J ((G.take i).flatten) wr)) (fun s9 _ => G.length - (intOf s9).toNat)
  case atStart => exact ⟨0, rfl, Nat.zero_le _, Lib.hid (KpZ.refl _ _), Lib.hid h0⟩
  case round =>
    obtain ⟨i, rfl, hi, HKr, HJr⟩ := hrel
    clear h0
    by_cases hlt : i < G.length
    · obtain ⟨v, hv, hst⟩ := HEL.out i G[i] (List.getElem?_eq_getElem hlt)
      obtain ⟨L, hLe⟩ : ∃ L, L = G[i] := ⟨_, rfl⟩
      have hLG : G[i]? = some L := by rw [hLe]; exact List.getElem?_eq_getElem hlt
      have hLl := hL L (by rw [hLe]; exact List.getElem_mem hlt)
      rw [← hLe] at hst
      clear hLe
      obtain ⟨q, c', rfl⟩ := Rw.slice hst
      obtain ⟨b, off, c, e, hc, hzb, hcell⟩ := (HR.out.kp HKr.out (fun k hk => hk)).at_ hlt
      obtain ⟨rfl, rfl⟩ : p = some ⟨b, off, none⟩ ∧ cap = c := by cases e; exact ⟨rfl, rfl⟩
      obtain ⟨u0, hu0, hcu⟩ := hcell 0 (by decide)
      rw [Nat.mul_one, Nat.add_zero] at hu0 hcu
      rw [hu0] at hv
      cases hv
      have HST := Lib.hid hst
      have HLG := Lib.hid hLG
      have hi' : (i : Int) < G.length := by omega
      clear e hc hzb hcell hu0 hst hLG
      gi_wp2
      clear hcu hi'
      gi_loopw [15] (fun s15 wq => ∃ j : Nat, s15 = .int .i64 j ∧ j ≤ L.length ∧ Hid (KpZ Z W wq) ∧ Hid (J ((G.take i).flatten ++ L.take j) wq)) (fun s15 _ => L.length - (intOf s15).toNat)
      case atStart => exact ⟨0, rfl, Nat.zero_le _, HKr, Lib.hid (by simpa using HJr.out)⟩
      case round =>
        obtain ⟨j, rfl, hj, HKq, HJq⟩ := hrel
        clear HKr HJr
        by_cases hjl : j < L.length
        · have hrq := HST.out.kp HKq.out (fun k hk => hk)
          obtain ⟨b', off', c2, e, hc, hzb, _⟩ := Rw.at_ hrq hjl
          obtain ⟨rfl, rfl⟩ : q = some ⟨b', off', none⟩ ∧ c' = c2 := by cases e; exact ⟨rfl, rfl⟩
          obtain ⟨q0, q1, q2, q3, q4, q5, q6, q7, q8⟩ := Stp.cells hrq hjl
          have hj' : (j : Int) < L.length := by omega
          have HPR := Lib.hid (flat_at G i j L HLG.out hjl)
          have HOW := Lib.hid (fun (m : Nat) (X : World) => (callsIn_wide (n := m)).2 (show Calls Tryz.prog 30 #[.agg #[.bool L[j].1, Ii L[j].2, Ii 0, .bool true, Ii L[j].2, Ii 0, Ii L[j].2, Ii 1, .slice none 0 0]] X fun e w' => e = .returned (.agg #[.bool L[j].1, Ii L[j].2, Ii 0, .bool true, Ii L[j].2, Ii 0, Ii L[j].2, Ii 1, .slice none 0 0]) ∧ Below X.heap.size X w' from own_any L[j] X))
          clear e hc hzb hrq
          gi_wp2
          clear q0 q1 q2 q3 q4 q5 q6 q7 q8
          refine ⟨trivial, fun h => (by cases h), (HOW.out _ _).mono ?_⟩
          rintro e W2 ⟨rfl, hb2⟩
          have hba := ((Below.refl _ wr).alloc (Nat.le_refl _) (.cells #[.bool L[j].1, Ii L[j].2, Ii 0, .bool true, Ii L[j].2, Ii 0, Ii L[j].2, Ii 1, .slice none 0 0] 40)).trans (hb2.mono (by rw [World.size_alloc]; omega))
          have hj2 := hJ _ _ _ none HJq.out ⟨hba.os, hba.tape, hba.output, hba.size, fun k hk _ => hba.block k hk⟩ (fun r e => by cases e)
          obtain ⟨fn, tmps, assign, body, hy, hR⟩ := HY.out _ _ _ hj2 HPR.out
          have hy' : (Instr.yield l #[.agg #[.bool L[j].1, Ii L[j].2, Ii 0, .bool true, Ii L[j].2, Ii 0, Ii L[j].2, Ii 1, .slice none 0 0]]).run Tryz.prog W2 = .ok (.round l fn tmps assign body) W2 := hy
          have HRR := Lib.hid hR
          have HKA := Lib.hid (HKq.out.t (KpZ.below hba))
          clear hy hR hj2 hba hb2
          gi_wp2
          have HJL := Lib.hid hjl
          refine ⟨fun h => (by cases h), HRR.out.mono ?_⟩
          rintro e W3 (⟨rfl, hj3, hk3⟩ | ⟨rfl, hj3, hk3⟩)
          · have HK3 := Lib.hid (HKA.out.t hk3)
            have HJ3 := Lib.hid hj3
            clear hj3 hk3
            gi_wp2
            go_roundw
            case rel =>
              refine ⟨j + 1, by simp, by omega, HK3, Lib.hid ?_⟩
              have := HJ3.out
              rw [List.append_assoc, take_snoc L j HJL.out] at this
              exact this
            case measure => simp [intOf]; omega
          · have HJ3 := Lib.hid hj3
            clear hj3 hk3
            gi_wp2
            rw [noGoto_normal]
            go_end0
            exact ⟨⟨_, rfl⟩, .inr ⟨_, HPR.out, HJ3.out⟩⟩
        · obtain rfl : j = L.length := by omega
          gi_wp2
          refine ⟨⟨i + 1, by simp, by omega, HKq, Lib.hid ?_⟩, by simp [intOf]; omega⟩
          have := HJq.out
          rw [List.take_length, flat_step G i L HLG.out] at this
          exact this
    · obtain rfl : i = G.length := by omega
      gi_wp2
      rw [noGoto_normal]
      go_end0
      refine ⟨⟨_, rfl⟩, .inl ?_⟩
      have := HJr.out
      rw [List.take_length] at this
      first | exact this | exact ⟨_, rfl, this⟩
end Go.Proofs.YticconhcphocbaaGreatDoor
