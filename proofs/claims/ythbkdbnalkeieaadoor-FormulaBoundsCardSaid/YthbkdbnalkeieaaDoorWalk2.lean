/- The walks of Walk and of what it hands back. -/
import Derived.Test.YthbkdbnalkeieaaDoorWalk
namespace Go.Proofs.YthbkdbnalkeieaaDoor
open Go.RowKit Go.Sort Go.Shelf

attribute [local go_sem] Oper.semAt_some

set_option maxHeartbeats 2000000 in
set_option maxRecDepth 100000 in
theorem walk_iter (Pp : Part → Prop) (Z : Nat → Prop) (n bx : Nat) (op la : Int) (p : Option Addr) (cap : Nat) (A : Anf) (w : World) (hbx : w.heap[bx]? = some (.cells #[In op, In la, .slice p A.er.len cap] 26 (0, 0))) (hA : ASl Z w p A) (hsz : A.er.size ≤ 1000000)
    (xs : List { x // Pp x }) (hxs : xs.map Subtype.val = ⟨op, la, p, cap, A.er⟩ :: A.list) :
    Iter Fence.wide n Tryd.prog 45 #[.pointer (some ⟨bx, 0, none⟩)] (fun x : { x // Pp x } => #[x.val.v]) (KpT Z) (fun ys => ys = xs) (fun pre => pre <+: xs) xs.length w := by
  intro l J Jx W hW hJ hJx hY h0
  have hb := (hW.block bx (lt_of_block hbx)).trans hbx
  have c0 := cell_of (o := 0) (v := In op) hb rfl
  have c1 := cell_of (o := 1) (v := In la) hb rfl
  have c2 := cell_of (o := 2) (v := .slice p A.er.len cap) hb rfl
  have HW := Lib.hid (walk_says Pp Z l W.heap.size xs.length J Jx hJ hJx (fun m pre x W1 hj hl => YieldAt.wideDepth m (hY pre x W1 hj hl)) op la p cap A (n - 1) [] xs W hxs (hA.kp (KpT.below hW)) h0 hsz (by simp))
  clear hb hbx hA hY hxs
  refine callsIn_of_wp Tryd.func45 rfl trivial ?_ rfl
  simp only [Tryd.ntmps45, List.size_toArray, List.length_cons, List.length_nil, Nat.reduceAdd, Nat.reduceSub, Array.replicate_succ, Array.replicate_zero, List.push_toArray, List.append_toArray, List.nil_append, List.cons_append]
  gi_wp2
  refine ⟨trivial, fun h => (by cases h), HW.out.mono ?_⟩
  rintro e W2 (⟨rfl, hj2, _⟩ | ⟨rfl, ⟨q, hq, hj2⟩, _⟩)
  · gi_wp2
    go_end0
    exact ⟨⟨_, rfl⟩, .inl ⟨xs, rfl, hj2⟩⟩
  · gi_wp2
    go_end0
    exact ⟨⟨_, rfl⟩, .inr ⟨q, hq, hj2⟩⟩

/-- What Walk hands back of a formula that may be. -/
def IsWalk (op la : Int) (of : Fms) (w : World) (e : Ending) (w' : World) : Prop :=
  ∃ bx p cap A, e = .returned (.func (.func 45) #[] #[.pointer (some ⟨bx, 0, none⟩)]) ∧ w'.heap[bx]? = some (.cells #[In op, In la, .slice p of.len cap] 26 (0, 0)) ∧ A.er = of ∧ ASl (fun k => w.heap.size ≤ k ∧ k < w'.heap.size) w' p A ∧ Below w.heap.size w w'

theorem RowZ.lt {Z : Nat → Prop} {w : World} : ∀ {F : Fms} {b off : Nat}, RowZ Z w F b off → RowZ (fun k => Z k ∧ k < w.heap.size) w F b off
  | .nil, _, _, _ => trivial
  | .cons _ _ _ _, _, _, ⟨hb, ⟨s, h1, h2, h3, h4⟩, h5⟩ => ⟨⟨hb, World.block_lt_of_cell? w _ h1⟩, ⟨s, h1, h2, h3, h4.imp id (fun ⟨b', off', cap, e, k⟩ => ⟨b', off', cap, e, RowZ.lt k⟩)⟩, RowZ.lt h5⟩
theorem SlZ.lt {Z : Nat → Prop} {w : World} {s : Value} {F : Fms} (h : SlZ Z w s F) : SlZ (fun k => Z k ∧ k < w.heap.size) w s F := h.imp id (fun ⟨b', off', cap, e, k⟩ => ⟨b', off', cap, e, k.lt⟩)

set_option maxHeartbeats 2000000 in
set_option maxRecDepth 100000 in
theorem Walk_ok (op la : Int) (of : Fms) (s : Value) (w : World) (hc : chk op la of = 0) (hsz : of.size < 1000000) (hs : SlIs w s of) :
    Calls Tryd.prog 25 #[.agg #[.int .i64 op, .int .i64 la, s]] w fun e w' => IsWalk op la of w e w' := by
  obtain ⟨p, cap, rfl⟩ := hs.slice
  obtain ⟨b0, hb0⟩ : ∃ b0, b0 = w.heap.size := ⟨_, rfl⟩
  obtain ⟨W, hW⟩ : ∃ W, W = w.alloc (.cells #[.int .i64 op, .int .i64 la, .slice p of.len cap] 26) := ⟨_, rfl⟩
  have hB : Below w.heap.size w W := by rw [hW]; exact (Below.refl _ w).alloc (Nat.le_refl _) _
  have hK : W.heap[b0]? = some (.cells #[In op, In la, .slice p of.len cap] 26 (0, 0)) := by rw [hW, hb0]; exact block_alloc_new w _
  have HS := Lib.hid (hs.later hB)
  have HB := Lib.hid hB
  have HK := Lib.hid hK
  have HC := Lib.hid hc
  clear hs hB hK hc
  go_enter Tryd.func25, Tryd.ntmps25
  go_upto_region 1 with fail
  rw [← hW, ← hb0]
  have HB0 := Lib.hid hb0
  clear hW hb0
  have c0 := cell_of (o := 0) (v := In op) HK.out rfl
  have c1 := cell_of (o := 1) (v := In la) HK.out rfl
  have c2 := cell_of (o := 2) (v := .slice p of.len cap) HK.out rfl
  go_wp2_with fail
  refine (check_any op la of (.slice p of.len cap) W (by omega) HS.out).mono ?_
  rintro e w1 ⟨rfl, hb1⟩
  rw [HC.out]
  have hk1 := (hb1.block b0 (lt_of_block HK.out)).trans HK.out
  have HS1 := Lib.hid (HS.out.later hb1)
  have HB1 := Lib.hid (HB.out.trans (hb1.mono HB.out.size))
  have HK1 := Lib.hid hk1
  clear hb1 hk1 c0 c1 c2
  have c0 := cell_of (o := 0) (v := In op) HK1.out rfl
  have c1 := cell_of (o := 1) (v := In la) HK1.out rfl
  have c2 := cell_of (o := 2) (v := .slice p of.len cap) HK1.out rfl
  go_wp2_with fail
  refine (own_any op la of (.slice p of.len cap) w1 hsz HS1.out).mono ?_
  rintro e w2 ⟨⟨s', rfl, hs'⟩, hb2⟩
  obtain ⟨p', cap', rfl⟩ := hs'.is.slice
  have hk2 := (hb2.block b0 (lt_of_block HK1.out)).trans HK1.out
  obtain ⟨⟨t0, t1⟩, ⟨t2, t3⟩, ⟨t4, t5⟩, t6⟩ := store3 hk2 (In op) (In la) (.slice p' of.len cap')
  have HK2 := Lib.hid hk2
  have HT := Lib.hid t6
  have HS2 := Lib.hid hs'
  have HB2 := Lib.hid (HB1.out.trans (hb2.mono HB1.out.size))
  have HLT := Lib.hid (lt_of_block HK1.out)
  clear hk2 t6 hs' hb2 c0 c1 c2
  go_wp2
  go_ret
  have hcs : Chg (fun x => x = b0) w2 (((w2.setCell ⟨b0, 0, none⟩ (In op)).setCell ⟨b0, 1, none⟩ (In la)).setCell ⟨b0, 2, none⟩ (.slice p' of.len cap')) :=
    (((Chg.refl (fun x => x = b0) w2).setCell (p := ⟨b0, 0, none⟩) (fun _ => rfl) _).setCell (p := ⟨b0, 1, none⟩) (fun _ => rfl) _).setCell (p := ⟨b0, 2, none⟩) (fun _ => rfl) _
  have h0 := HB0.out
  have hlt := HLT.out
  have hz := HB1.out.size
  obtain ⟨A, p'', cap'', h1, h2, h3⟩ := (((HS2.out.mono (Z' := fun k => b0 < k) (fun k hk => by omega)).keep hcs (fun k hk e => by omega)).lt.mono (Z' := fun k => w.heap.size ≤ k ∧ k < (((w2.setCell ⟨b0, 0, none⟩ (In op)).setCell ⟨b0, 1, none⟩ (In la)).setCell ⟨b0, 2, none⟩ (.slice p' of.len cap')).heap.size) (fun k hk => ⟨by omega, hk.2⟩)).anf
  simp only [Value.slice.injEq] at h2
  obtain ⟨rfl, _, rfl⟩ := h2
  exact ⟨b0, p', cap', A, rfl, HT.out, h1, h3, HB2.out.trans (hcs.below (B := w.heap.size) (fun k _ e => by omega) HB2.out.size)⟩

set_option maxHeartbeats 2000000 in
set_option maxRecDepth 100000 in
theorem Walk_bad (op la : Int) (of : Fms) (s : Value) (w : World) (hc : chk op la of ≠ 0) (hsz : of.size < 1000000) (hs : SlIs w s of) :
    Calls Tryd.prog 25 #[.agg #[.int .i64 op, .int .i64 la, s]] w fun e w' => e = .returned (.func (.func 43) #[] #[]) ∧ Below w.heap.size w w' := by
  obtain ⟨p, cap, rfl⟩ := hs.slice
  obtain ⟨b0, hb0⟩ : ∃ b0, b0 = w.heap.size := ⟨_, rfl⟩
  obtain ⟨W, hW⟩ : ∃ W, W = w.alloc (.cells #[.int .i64 op, .int .i64 la, .slice p of.len cap] 26) := ⟨_, rfl⟩
  have hB : Below w.heap.size w W := by rw [hW]; exact (Below.refl _ w).alloc (Nat.le_refl _) _
  have hK : W.heap[b0]? = some (.cells #[In op, In la, .slice p of.len cap] 26 (0, 0)) := by rw [hW, hb0]; exact block_alloc_new w _
  have HS := Lib.hid (hs.later hB)
  have HB := Lib.hid hB
  have HK := Lib.hid hK
  obtain ⟨x, hx⟩ : ∃ x, x = chk op la of := ⟨_, rfl⟩
  rw [← hx] at hc
  have e1 : (x == 0) = false := beq_eq_false_iff_ne.2 hc
  clear hs hB hK hc
  go_enter Tryd.func25, Tryd.ntmps25
  go_upto_region 1 with fail
  rw [← hW, ← hb0]
  have HX := Lib.hid hx
  clear hW hb0 hx
  have c0 := cell_of (o := 0) (v := In op) HK.out rfl
  have c1 := cell_of (o := 1) (v := In la) HK.out rfl
  have c2 := cell_of (o := 2) (v := .slice p of.len cap) HK.out rfl
  go_wp2_with fail
  refine (check_any op la of (.slice p of.len cap) W (by omega) HS.out).mono ?_
  rintro e w1 ⟨rfl, hb1⟩
  rw [← HX.out]
  go_wp2
  go_ret
  exact ⟨rfl, HB.out.trans (hb1.mono HB.out.size)⟩
end Go.Proofs.YthbkdbnalkeieaaDoor
