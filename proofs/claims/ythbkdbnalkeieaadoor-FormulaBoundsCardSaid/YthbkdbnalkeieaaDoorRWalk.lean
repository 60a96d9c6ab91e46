/- The walk of the reference's Walk: the parts of a formula in a row. -/
import Derived.Test.YthbkdbnalkeieaaDoorHolds2
namespace Go.Proofs.YthbkdbnalkeieaaDoor
open Go.RowKit Go.Sort Go.Shelf

def Fms.app : Fms → Fms → Fms
  | .nil, G => G
  | .cons op la of r, G => .cons op la of (r.app G)
theorem Fms.app_assoc : ∀ F G H : Fms, (F.app G).app H = F.app (G.app H)
  | .nil, _, _ => rfl
  | .cons op la of r, G, H => by simp [Fms.app, Fms.app_assoc r G H]
theorem Fms.app_nil : ∀ F : Fms, F.app .nil = F
  | .nil => rfl
  | .cons op la of r => by simp [Fms.app, Fms.app_nil r]
theorem Fms.app_len : ∀ F G : Fms, (F.app G).len = F.len + G.len
  | .nil, G => by simp [Fms.app, Fms.len]
  | .cons op la of r, G => by simp [Fms.app, Fms.len, Fms.app_len r G]; omega
/-- The parts of a row's formulas. -/
def wkR : Fms → Fms
  | .nil => .nil
  | .cons op la of r => .cons op la of ((wkR of).app (wkR r))
theorem wkR_len : ∀ F : Fms, (wkR F).len = F.size
  | .nil => rfl
  | .cons op la of r => by simp [wkR, Fms.len, Fms.app_len, Fms.size, wkR_len of, wkR_len r]

/-- The cells xs hold the row, what is in it lies in w. -/
def PartsIs (w : World) : Fms → List Value → Prop
  | .nil, xs => xs = []
  | .cons op la of r, xs => ∃ s ys, xs = In op :: In la :: s :: ys ∧ SlIs w s of ∧ PartsIs w r ys
theorem PartsIs.app {w : World} : ∀ {F G : Fms} {xs ys : List Value}, PartsIs w F xs → PartsIs w G ys → PartsIs w (F.app G) (xs ++ ys)
  | .nil, _, _, _, h, k => by rw [h]; exact k
  | .cons op la of r, _, _, _, ⟨s, zs, e, h1, h2⟩, k => ⟨s, _, by rw [e]; rfl, h1, PartsIs.app h2 k⟩
theorem PartsIs.length {w : World} : ∀ {F : Fms} {xs : List Value}, PartsIs w F xs → xs.length = F.len * 3
  | .nil, _, h => by rw [h]; rfl
  | .cons op la of r, _, ⟨s, zs, e, h1, h2⟩ => by rw [e]; simp [Fms.len, PartsIs.length h2]; omega
theorem PartsIs.one {w : World} : ∀ {F : Fms} {xs : List Value}, PartsIs w F xs → ∀ u ∈ xs, u.oneCell' = true
  | .nil, _, h, u, hu => by rw [h] at hu; cases hu
  | .cons op la of r, _, ⟨s, zs, e, h1, h2⟩, u, hu => by
    rw [e] at hu
    obtain ⟨p, c, rfl⟩ := h1.slice
    simp only [List.mem_cons] at hu
    rcases hu with rfl | rfl | rfl | hu
    · rfl
    · rfl
    · rfl
    · exact PartsIs.one h2 u hu
theorem PartsIs.row {w w' : World} (hb : Below w.heap.size w w') {b : Nat} : ∀ {F : Fms} {xs : List Value} {off : Nat}, PartsIs w F xs → (∀ j u, xs[j]? = some u → w'.cell? ⟨b, off + j, none⟩ = some u) → RowIs w' F b off
  | .nil, _, _, _, _ => trivial
  | .cons op la of r, _, off, ⟨s, zs, e, h1, h2⟩, hc => by
    subst e
    refine ⟨⟨s, hc 0 _ rfl, hc 1 _ rfl, hc 2 _ rfl, h1.later hb⟩, PartsIs.row hb h2 fun j u hu => ?_⟩
    have := hc (j + 3) u hu
    rw [show off + (j + 3) = off + 3 + j by omega] at this
    exact this

theorem ownsRow_below {w W : World} {B size : Nat} {e : TypeId} {v : Value} {n : Nat} {xs : List Value} (h : w.ownsRow B e size v n xs) (hb : Below w.heap.size w W) : W.ownsRow B e size v n xs := by
  refine ⟨h.1, ?_⟩
  rcases h.2 with e | ⟨k, cap, cur, rfl, hb0, hk, r⟩
  · exact .inl e
  · exact .inr ⟨k, cap, cur, rfl, hb0, (hb.block k (lt_of_block hk)).trans hk, r⟩

def RWalkOk (op la : Int) (of : Fms) : Prop :=
  ∀ (s : Value) (w0 w : World), of.size < 1000000 → SlIs w0 s of → Below w0.heap.size w0 w →
    Calls Tryd.prog 24 #[.agg #[.int .i64 op, .int .i64 la, s]] w fun e w' => (∃ v xs, e = .returned v ∧ w'.ownsRow w.heap.size 26 3 v (of.size + 1) xs ∧ PartsIs w0 (.cons op la of (wkR of)) xs) ∧ Below w.heap.size w w'

theorem Tryd.info26 : (Tryd.prog.info? 26).map (fun i => (i.zero, i.size, i.bytes)) = some (some (.agg #[.int .i64 0, .int .i64 0, .slice none 0 0]), 3, 40) := by kernel_rfl

set_option maxHeartbeats 4000000 in
set_option maxRecDepth 100000 in
theorem rwalk_step (op la : Int) (of : Fms) (IH : of.All RWalkOk) : RWalkOk op la of := by
  intro s w0 w hsz hs hw0
  obtain ⟨p, cap, rfl⟩ := hs.slice
  obtain ⟨b0, hb0⟩ : ∃ b0, b0 = w.heap.size := ⟨_, rfl⟩
  obtain ⟨W, hW⟩ : ∃ W, W = (w.alloc (.cells #[.int .i64 op, .int .i64 la, .slice p of.len cap] 26)).alloc (.cells #[.int .i64 op, .int .i64 la, .slice p of.len cap] 26) := ⟨_, rfl⟩
  have hB : Below w.heap.size w W := by rw [hW]; exact ((Below.refl _ w).alloc (Nat.le_refl _) _).alloc (by simp) _
  have k1 : W.heap[b0]? = some (.cells #[In op, In la, .slice p of.len cap] 26 (0, 0)) := by rw [hW, hb0]; exact block_alloc_old _ (block_alloc_new w _)
  have k2 : W.heap[b0 + 1]? = some (.cells #[In op, In la, .slice p of.len cap] 26 (0, 0)) := by
    have := block_alloc_new (w.alloc (.cells #[.int .i64 op, .int .i64 la, .slice p of.len cap] 26)) (.cells #[.int .i64 op, .int .i64 la, .slice p of.len cap] 26)
    rw [World.size_alloc] at this
    rw [hW, hb0]
    exact this
  have hown : W.ownsRow 0 26 3 (.slice (some ⟨b0 + 1, 0, none⟩) 1 1) 1 [In op, In la, .slice p of.len cap] :=
    ⟨rfl, .inr ⟨b0 + 1, 1, _, rfl, Nat.zero_le _, k2, Nat.le_refl _, by decide, rfl, rfl⟩⟩
  have hP0 : PartsIs w0 (.cons op la of .nil) [In op, In la, .slice p of.len cap] := ⟨_, [], rfl, hs, rfl⟩
  obtain ⟨i0, hi, hz0, hz1, hz2⟩ := info_parts Tryd.info26
  have hlen := Fms.len_le_size of
  have HW0 := Lib.hid hw0
  have HS := Lib.hid hs
  have HIH := Lib.hid IH
  have HB := Lib.hid hB
  have HK1 := Lib.hid k1
  have HO := Lib.hid hown
  have HP0 := Lib.hid hP0
  clear hs IH hB k1 k2 hown hP0 hw0
  go_enter Tryd.func24, Tryd.ntmps24
  go_upto_region 3 with fail
  rw [← hW, ← hb0]
  have HB0 := Lib.hid hb0
  clear hW hb0
  go_loopg [3, 4] (of.len + 1) (fun gg s3 s4 wr => ∃ (i n : Nat) (xs : List Value) (D : Fms), s4 = .int .i64 i ∧ i ≤ of.len ∧ of.len + 1 ≤ gg + i ∧ n = D.len ∧ 0 < n ∧ Hid (Below w.heap.size w wr) ∧ Hid (wr.heap[b0]? = some (.cells #[In op, In la, .slice p of.len cap] 26 (0, 0))) ∧
    Hid (wr.ownsRow 0 26 3 s3 n xs) ∧ Hid (∀ b, s3.ownBlock = some b → b0 + 1 ≤ b) ∧ Hid (PartsIs w0 D xs) ∧ Hid (D.app (wkR (of.drop i)) = .cons op la of (wkR of)))
  case atStart =>
    refine ⟨0, 1, _, .cons op la of .nil, rfl, Nat.zero_le _, by omega, rfl, by decide, HB, HK1, HO, Lib.hid (fun b hb => by cases hb; exact Nat.le_refl _), HP0, Lib.hid ?_⟩
    cases of <;> rfl
  case round =>
    obtain ⟨i, n, xs, D, rfl, hi', hgk, hn, hn0, HBr, HKa, HOr, HOb, HPr, HDr⟩ := hrel
    clear HB HK1 HO HP0
    have c2 := cell_of (o := 2) (v := .slice p of.len cap) HKa.out rfl
    have hsum := congrArg Fms.len HDr.out
    simp only [Fms.app_len, wkR_len, Fms.len] at hsum
    by_cases hlt : i < of.len
    · have hlt' : (i : Int) < (of.len : Int) := by omega
      obtain ⟨xo, xl, xf, hget, hdrop⟩ := Fms.drop_get hlt
      obtain ⟨b, off, rfl, hrow⟩ := HS.out.at hlt
      have hbw : Below w0.heap.size w0 wr := HW0.out.trans (HBr.out.mono HW0.out.size)
      obtain ⟨xs0, x0, x1, x2, hx⟩ := hrow.at hget
      obtain ⟨xp, xc, rfl⟩ := hx.slice
      have k : ∀ {p : Addr} {v : Value}, w0.cell? p = some v → wr.cell? p = some v := fun e => (hbw.cell (World.block_lt_of_cell? w0 _ e)).trans e
      have x0 := k x0
      have x1 := k x1
      have x2 := k x2
      have hszx := Fms.size_get hget
      have HG := Lib.hid ((Fms.All.at HIH.out hget) (.slice xp xf.len xc) w0 wr (by omega) hx hbw)
      have hD2 : (D.app (.cons xo xl xf (wkR xf))).app (wkR (of.drop (i + 1))) = .cons op la of (wkR of) := by
        rw [← HDr.out, hdrop, Fms.app_assoc]; rfl
      have hsum2 := congrArg Fms.len hD2
      simp only [Fms.app_len, wkR_len, Fms.len] at hsum2
      have HD2 := Lib.hid hD2
      clear hdrop hget hrow hbw hx k hD2
      go_wp2_with fail
      refine HG.out.mono ?_
      rintro e w1 ⟨⟨v1, xs1, rfl, hown1, hP1⟩, hb1⟩
      have hO1 := ownsRow_below HOr.out hb1
      have hsz0 : b0 ≤ wr.heap.size := by rw [HB0.out]; exact HBr.out.size
      have HB1 := Lib.hid (HBr.out.trans (hb1.mono HBr.out.size))
      have HK1 := Lib.hid ((hb1.block b0 (lt_of_block HKa.out)).trans HKa.out)
      obtain ⟨g1, cap1, rfl⟩ := ownsRow_succ hown1
      have hg1 := hown1.lt g1 rfl
      have HO1 := Lib.hid hO1
      have HOW := Lib.hid hown1
      have HP1 := Lib.hid hP1
      have hw1 : wr.heap.size ≤ w1.heap.size := hb1.size
      clear hO1 hown1 hP1 hb1 c2 x0 x1 x2 HG
      have hbig : n + (xf.size + 1) ≤ 1000001 := by omega
      go_wp2_with (at_builtin; refine wpList_append_or _ rfl _ _ 24 rfl 26 i0 _ 3 40 Tryd.underlying24 hi hz0 hz1 hz2 rfl (by decide) _ n xs rfl HO1.out ⟨g1, 0, none⟩ (xf.size + 1) cap1 xs1 rfl (by rw [HP1.out.length]; simp [Fms.len, wkR_len]) ?c1 ?c2 ?c3 ?c4 ?c5 ?_)
      case c1 => exact HOW.out.cells rfl
      case c2 => exact HP1.out.one
      case c3 => unfold maxLen; omega
      case c4 => omega
      case c5 => omega
      intro v' w2 hown2 hgrow hnew
      have HO2 := Lib.hid hown2
      have hbk : ∀ b, u3.ownBlock = some b → b0 + 1 ≤ b := HOb.out
      have HB2 := Lib.hid (HB1.out.grown hgrow HB1.out.size (fun b hb => by have := hbk b hb; have := HB0.out; omega))
      have hne : (some b0 : Option Nat) ≠ u3.ownBlock := fun e => by have := hbk b0 e.symm; omega
      have HK2 := Lib.hid ((hgrow.block b0 (lt_of_block HK1.out) hne).trans HK1.out)
      have HOb2 := Lib.hid (show ∀ b, v'.ownBlock = some b → b0 + 1 ≤ b from fun b hb => by
        rcases hnew with e | e
        · exact hbk b (by rw [← e]; exact hb)
        · have := e b hb
          have := lt_of_block HKa.out
          omega)
      have HP2 := Lib.hid (HPr.out.app HP1.out)
      clear hown2 hgrow hnew hbk hne
      go_wp2
      go_roundg (of.len - i)
      case measure => omega
      case rel => exact ⟨i + 1, D.len + (xf.size + 1), xs ++ xs1, _, by simp, by omega, by omega, by simp [Fms.app_len, Fms.len, wkR_len], by omega, HB2, HK2, HO2, HOb2, HP2, HD2⟩
    · obtain rfl : i = of.len := by omega
      have hn2 : n = of.size + 1 := by rw [Fms.drop_len] at hsum; simp [Fms.size] at hsum; omega
      have hP2 := HPr.out
      have hD : D = .cons op la of (wkR of) := by have := HDr.out; rw [Fms.drop_len] at this; simpa [wkR, Fms.app_nil] using this
      rw [hD] at hP2
      have HP2 := Lib.hid hP2
      clear hP2 hD HPr
      go_wp2
      go_ret
      refine ⟨⟨_, xs, rfl, ?_, HP2.out⟩, HBr.out⟩
      rw [← hn2]
      exact ownsRow_rebase HOr.out (fun b hb => by have := HOb.out b hb; have := HB0.out; omega)

theorem rwalk_any (op la : Int) (of : Fms) : RWalkOk op la of := rwalk_step op la of (Fms.all_of rwalk_step of)
#print axioms rwalk_any
end Go.Proofs.YthbkdbnalkeieaaDoor
