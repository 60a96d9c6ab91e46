/- The walk of FormulaBounds: it answers true. -/
import Derived.Test.YthbkdbnalkeieaaDoorBoundsM
import Derived.Test.YthbkdbnalkeieaaDoorOrder
import Derived.Deep.AppendLies
namespace Go.Proofs.YthbkdbnalkeieaaDoor
open Go.RowKit Go.Sort Go.Shelf

theorem wp_region_quiet_class {P : Program} {id : Nat} {L : List Oper} {Q : Exit → Act → World → Prop} {a : Act} {w : World} (C : World → Prop) (hm : P.follows .mixedOrders = true) (hB : Region.lexB .any L.toArray = true) (hC : C { w with drawn := w.drawn + 1 })
    (h : wpQuiet P L.toArray C (fun a' => ∀ w', C w' → Q .normal a' w') L a) : (Code.region id L.toArray true).wp P Q a w := wp_region_quiet (C := C) hm hB hC (by simpa using h)

set_option maxHeartbeats 4000000 in
set_option maxRecDepth 100000 in
theorem bounds_main (bs : List Bool) (p : Option Addr) (cap m : Nat) (w : World) (hbs : signsAt w p bs) (h20 : 20 ≤ bs.length) (h40 : bs.length ≤ 40) (h250 : 250 ≤ m) (h265 : m ≤ 265) :
    Calls Tryd.prog 4 #[.slice p bs.length cap, .int .i64 m] w fun e w' => e = .returned (.bool true) ∧ Below w.heap.size w w' := by
  have HS := Lib.hid hbs
  clear hbs
  have g1 : decide (bs.length < 20) = false := decide_eq_false (by omega)
  have g2 : decide (40 < bs.length) = false := decide_eq_false (by omega)
  go_enter Tryd.func4, Tryd.ntmps4
  go_wp2
  go_loop [5, 6, 7, 8] (fun s5 s6 s7 s8 => ∃ i : Nat, i ≤ bs.length ∧ s8 = .int .i64 i ∧ s5 = str (preB (bs.take i)) ∧ s6 = str (behB (bs.take i)) ∧ s7 = .int .i64 ((bs.take i).count true : Nat)) (fun _ _ _ i => bs.length - (intOf i).toNat)
  case atStart => exact ⟨0, by omega, rfl, rfl, rfl, rfl⟩
  case round =>
    obtain ⟨i, hi, rfl, rfl, rfl, rfl⟩ := hrel
    have hc1 : (bs.take i).count true ≤ 40 := Nat.le_trans List.count_le_length (by simp; omega)
    have hc2 : (bs.take i).count false ≤ 40 := Nat.le_trans List.count_le_length (by simp; omega)
    have hpl : (preB (bs.take i)).length = i := by simp [preB]; omega
    have hbl : (behB (bs.take i)).length ≤ 40 := by simpa [behB] using hc2
    by_cases hlt : i < bs.length
    · obtain ⟨b, off, rfl, hc⟩ := HS.out i bs[i] (List.getElem?_eq_getElem hlt)
      have hcn := count_snoc bs i true bs[i] (List.getElem?_eq_getElem hlt)
      have hcf := count_snoc bs i false bs[i] (List.getElem?_eq_getElem hlt)
      have hpn := preB_snoc bs i bs[i] (List.getElem?_eq_getElem hlt)
      generalize bs[i] = x at hc hcn hcf hpn
      have HCN := Lib.hid hcn
      have HCF := Lib.hid hcf
      have HPN := Lib.hid hpn
      have HPL := Lib.hid hpl
      have ov1 : ¬ 9223372036854775807 < (preB (bs.take i)).length + 1 := by omega
      have ov2 : ¬ 9223372036854775807 < (behB (bs.take i)).length + 1 := by omega
      clear hcn hcf hpn hpl
      cases x with
      | true =>
        go_wp2
        go_round
        case rel =>
          refine ⟨i + 1, by omega, by simp, ?_, ?_, ?_⟩
          · rw [HPN.out]; show Value.string (⟨_⟩ ++ ⟨[33].toArray⟩) = _; rw [bapp]; rfl
          · unfold behB; rw [HCF.out]; rfl
          · rw [HCN.out]; simp
        case measure => simp [intOf]; omega
      | false =>
        go_wp2
        go_round
        case rel =>
          refine ⟨i + 1, by omega, by simp, ?_, ?_, ?_⟩
          · rw [HPN.out]; show Value.string (⟨_⟩ ++ ⟨[40].toArray⟩) = _; rw [bapp]; rfl
          · unfold behB; rw [HCF.out]; simp only [beq_self_eq_true, if_true, List.replicate_succ']; show Value.string (⟨_⟩ ++ ⟨[41].toArray⟩) = _; rw [bapp]
          · rw [HCN.out]; simp
        case measure => simp [intOf]; omega
    · obtain rfl : i = bs.length := by omega
      rw [List.take_length] at hpl hbl hc1
      have ov1 : ¬ 9223372036854775807 < (preB bs).length + 2 := by omega
      have ov2 : ¬ 9223372036854775807 < (preB bs).length + 2 + (behB bs).length := by omega
      obtain ⟨r1, r2⟩ := signs_rd bs h20 h40
      have R1 := Lib.hid r1
      have R2 := Lib.hid r2
      clear r1 r2 hpl hbl hc2
      go_wp2_with fail
      have hst : (⟨(preB bs).toArray⟩ ++ ⟨#[76, 48]⟩ ++ ⟨(behB bs).toArray⟩ : ByteArray) = ⟨(preB bs ++ (76 :: 48 :: behB bs)).toArray⟩ := by
        show (⟨(preB bs).toArray⟩ ++ ⟨[76, 48].toArray⟩ ++ ⟨(behB bs).toArray⟩ : ByteArray) = _
        rw [bapp, bapp]
        simp
      rw [hst]
      clear hst
      refine (parse_any _ w).mono ?_
      intro e w1 hR
      obtain ⟨op, la, x, pf, nf, cf, rfl, hb1, hx⟩ := parsed_bounds R1.out R2.out hR
      have HX := Lib.hid hx
      have HB1 := Lib.hid hb1
      clear hR R1 R2 hx hb1
      have HBA := Lib.hid (HB1.out.alloc HB1.out.size (.cells #[.int .i64 op, .int .i64 la, .slice pf nf cf] 26))
      generalize hnt : bs.count true = nt at hc1
      have HNT := Lib.hid hnt
      clear hnt
      go_upto_region 12 with fail
      go_cut [11] from 16 to 147 (fun s11 wx => s11 = .int .i64 0 ∧ Below w.heap.size w wx)
      case first =>
        go_wp2
        go_meet
        exact ⟨rfl, HBA.out⟩
      case rest =>
      obtain ⟨rfl, hbc⟩ := hcut
      have HBC := Lib.hid hbc
      clear hbc HBA HB1
      apply_assumption
      refine wp_seq_k ?_
      intro K hK
      go_cut [11] from 16 to 147 (fun s11 wx => s11 = .int .i64 x ∧ Below w.heap.size w wx)
      case first =>
        clear hK
        by_cases h32 : 32 < bs.length
        · obtain rfl : x = 311 := by rw [HX.out, if_neg (by omega)]
          go_wp2
          go_meet
          exact ⟨rfl, HBC.out⟩
        · have d1 : decide (32 < bs.length) = false := by simpa using h32
          have hx := HX.out
          rw [HNT.out] at hx
          by_cases hn : nt + 1 ≤ 32
          · obtain rfl : x = 0 := by rw [hx, if_pos ⟨by omega, hn⟩]
            clear hx
            go_wp2
            go_meet
            exact ⟨rfl, HBC.out⟩
          · obtain rfl : x = 311 := by rw [hx, if_neg (by omega)]
            clear hx
            go_wp2
            go_meet
            exact ⟨rfl, HBC.out⟩
      case rest =>
      obtain ⟨rfl, hbc⟩ := hcut
      have HBD := Lib.hid hbc
      clear hbc HBC
      refine hK _ _ ?_
      clear hK
      go_wp2_with fail
      refine (num_any x _).mono ?_
      rintro e w2 ⟨rfl, rfl⟩
      obtain ⟨i0, hi0, hz0, hz1, hz2⟩ := info_parts Tryd.info26
      have hbm : i0.bytes * m ≤ 281474976710656 := by rw [hz2]; omega
      have hml : m ≤ maxLen := by unfold maxLen; omega
      have HBD' := HBD.out.size
      go_wp2_with (refine wpList_make_full _ rfl _ _ 24 rfl w.heap.size 26 i0 _ 3 Tryd.underlying24 hi0 hz0 hz1 .i64 .i64 m m m rfl rfl rfl rfl hbm hml HBD' ?_; intro w3 hown3 hgr3)
      have HOW := Lib.hid hown3
      have HLR := Lib.hid (LeafRow.start m)
      have HBE := Lib.hid (HBD.out.grown hgr3 HBD.out.size (fun k e => by cases e))
      obtain ⟨g0, hg0⟩ : ∃ g, g = wc.heap.size := ⟨_, rfl⟩
      rw [← hg0] at HOW
      rw [← hg0]
      have HG0 := Lib.hid (show w.heap.size ≤ g0 by rw [hg0]; exact HBD.out.size)
      clear hown3 hgr3 hg0 HBD
      go_loopw [13] (fun s13 wr => ∃ (i : Nat) (xs : List Value), i ≤ m ∧ s13 = .int .i64 i ∧ Hid (wr.ownsRow w.heap.size 26 3 (.slice (some ⟨g0, 0, none⟩) m m) m xs) ∧ Hid (LeafRow i m xs) ∧ Hid (Below w.heap.size w wr)) (fun s13 _ => m - (intOf s13).toNat)
      case atStart => exact ⟨0, _, by omega, rfl, HOW, HLR, HBE⟩
      case round =>
        obtain ⟨i, xs, him, rfl, HOr, HLr, HBr⟩ := hrel
        clear HOW HLR HBE
        by_cases hlt : i < m
        · have hl := HLr.out.1
          have c0 := (HOr.out.cellAt (i * 3) (by omega)).trans (List.getElem?_eq_getElem (by omega))
          have c1 := (HOr.out.cellAt (i * 3 + 1) (by omega)).trans (List.getElem?_eq_getElem (by omega))
          have c2 := (HOr.out.cellAt (i * 3 + 2) (by omega)).trans (List.getElem?_eq_getElem (by omega))
          have f0 := HOr.out.frozenAt (i * 3)
          have f1 := HOr.out.frozenAt (i * 3 + 1)
          have f2 := HOr.out.frozenAt (i * 3 + 2)
          have hlt' : (i : Int) < (m : Int) := by omega
          have hs := HLr.out.step hlt
          have HN := Lib.hid hs
          have o1 := (HOr.out.stored (i * 3) (In 1)).1
          have o2 := (o1.stored (i * 3 + 1) (In ((i % 16 : Nat) : Int))).1
          have o3 := (o2.stored (i * 3 + 2) (.slice none 0 0)).1
          have HO3 := Lib.hid o3
          clear hs o1 o2 o3
          go_wp2
          go_roundw
          case rel =>
            refine ⟨i + 1, _, by omega, by simp, ?_, HN, ?_⟩
            · have := HO3
              simpa using this
            · have h0 := HG0.out
              exact Lib.hid (((HBr.out.setCell (p := ⟨g0, i * 3, none⟩) h0 _).setCell (p := ⟨g0, i * 3 + 1, none⟩) h0 _).setCell (p := ⟨g0, i * 3 + 2, none⟩) h0 _)
          case measure => simp [intOf]; omega
        · obtain rfl : m = i := by omega
          have HL := Lib.hid (BRel.start h250 h265 HOr.out HLr.out HBr.out)
          have hF : (leaves 0 m).len = m := leaves_len 0 m
          generalize leaves 0 m = F0 at HL hF
          have HF := Lib.hid hF
          clear hF HOr HLr HBr
          go_wp2
          go_loopg [12] 300 (fun gg s12 wq => ∃ (k : Nat) (F : Fms) (g c : Nat) (xs : List Value) (Z : Nat → Prop), s12 = .slice (some ⟨g, 0, none⟩) F.len c ∧ F.len ≤ gg ∧ F.len ≤ 265 ∧ Hid (BRel w m k wq F g c xs Z))
          case atStart => exact ⟨0, F0, g0, m, xs, _, by rw [HF.out], by have := HF.out; omega, by have := HF.out; omega, HL⟩
          case round =>
            obtain ⟨k, F, g, c, xs, Z, rfl, hgk, h2s, HB⟩ := hrel
            clear HL HF
            by_cases h1 : 1 < F.len
            · obtain ⟨wo, hwo⟩ : ∃ wo : World, wo = wr := ⟨_, rfl⟩
              rw [← hwo]
              rw [← hwo] at HB
              clear hwo
              have HC := Lib.hid (CRel.start HB.out)
              have d1 : decide ((F.len : Int) ≤ 1) = false := decide_eq_false (by omega)
              have h1' : (1 : Int) < (F.len : Int) := by omega
              go_wp2
              go_loopg [14, 15] 300 (fun gg s14 s15 wq => ∃ (i : Nat) (G : Fms) (ys : List Value) (Z : Nat → Prop), s15 = .int .i64 i ∧ i ≤ F.len ∧ F.len + 1 ≤ gg + i ∧ Hid (CRel w wq F g c xs i G s14 ys Z))
              case atStart => exact ⟨0, .nil, [], _, rfl, by omega, by omega, HC⟩
              case round =>
                obtain ⟨i, G, ys, Z2, rfl, hin, hgi, HCr⟩ := hrel
                clear HC
                by_cases hlt : i + 1 < F.len
                · obtain ⟨o1, l1, f1, q1, c1, hg1, hd1, a0, a1, a2, hs1⟩ := HCr.out.at (j := i) (by omega)
                  obtain ⟨o2, l2, f2, q2, c2, hg2, hd2, b0, b1, b2, hs2⟩ := HCr.out.at (j := i + 1) hlt
                  have hdd : F.drop i = .cons o1 l1 f1 (.cons o2 l2 f2 (F.drop (i + 2))) := by rw [hd1, hd2]
                  have HDD := Lib.hid hdd
                  have HS1 := Lib.hid hs1
                  have HS2 := Lib.hid hs2
                  have hgl : G.len ≤ 265 := by have := HCr.out.hi; omega
                  have hlt' : ((i : Int) + 1) < (F.len : Int) := by omega
                  clear hdd hs1 hs2 hd1 hd2 hg1 hg2
                  go_wp2_with fail
                  have hi1 : IntKind.i64.wrap ((i : Int) + 1) = (i : Int) + 1 := IntWalk.i64_in _ (by omega)
                  have hi2 : (0 : Int) ≤ (i : Int) + 1 := by omega
                  have hii : i < F.len := by omega
                  have hi3 : ((i : Int) + 1).toNat = i + 1 := by omega
                  refine wp_region_order (fun X => X.cell? ⟨g, i * 3, none⟩ = some (In o1) ∧ X.cell? ⟨g, i * 3 + 1, none⟩ = some (In l1) ∧ X.cell? ⟨g, i * 3 + 2, none⟩ = some (.slice q1 f1.len c1) ∧ X.cell? ⟨g, (i + 1) * 3, none⟩ = some (In o2) ∧ X.cell? ⟨g, (i + 1) * 3 + 1, none⟩ = some (In l2) ∧ X.cell? ⟨g, (i + 1) * 3 + 2, none⟩ = some (.slice q2 f2.len c2)) [(true, 0), (true, 1), (true, 2), (true, 3), (true, 4), (true, 5), (true, 6), (true, 7), (true, 8), (true, 9), (false, 10), (true, 11), (false, 12), (false, 13), (true, 14)] (by kernel_rfl) (by kernel_rfl) (fun c a d v w h => by simp only [Exit.inBlock, Exit.then] at h ⊢; cases d <;> exact h) ⟨a0, a1, a2, b0, b1, b2⟩ ?_
                  refine order_take (o := ⟨_, _, _, _, _, _⟩) (v := ?_) rfl (Or.inl ⟨by rfl, ?_⟩) ?_
                  rotate_left
                  · (rintro X ⟨z1, z2, z3, z4, z5, z6⟩; go_simp; try with_reducible rfl)
                  try simp only [Act.put, List.setIfInBounds_toArray, List.set_cons_zero, List.set_cons_succ]
                  refine order_take (o := ⟨_, _, _, _, _, _⟩) (v := ?_) rfl (Or.inl ⟨by rfl, ?_⟩) ?_
                  rotate_left
                  · (rintro X ⟨z1, z2, z3, z4, z5, z6⟩; go_simp; try with_reducible rfl)
                  try simp only [Act.put, List.setIfInBounds_toArray, List.set_cons_zero, List.set_cons_succ]
                  refine order_take (o := ⟨_, _, _, _, _, _⟩) (v := ?_) rfl (Or.inl ⟨by rfl, ?_⟩) ?_
                  rotate_left
                  · (rintro X ⟨z1, z2, z3, z4, z5, z6⟩; go_simp; try with_reducible rfl)
                  try simp only [Act.put, List.setIfInBounds_toArray, List.set_cons_zero, List.set_cons_succ]
                  refine order_take (o := ⟨_, _, _, _, _, _⟩) (v := ?_) rfl (Or.inl ⟨by rfl, ?_⟩) ?_
                  rotate_left
                  · (rintro X ⟨z1, z2, z3, z4, z5, z6⟩; go_simp; try with_reducible rfl)
                  try simp only [Act.put, List.setIfInBounds_toArray, List.set_cons_zero, List.set_cons_succ]
                  refine order_take (o := ⟨_, _, _, _, _, _⟩) (v := ?_) rfl (Or.inl ⟨by rfl, ?_⟩) ?_
                  rotate_left
                  · (rintro X ⟨z1, z2, z3, z4, z5, z6⟩; go_simp; try with_reducible rfl)
                  try simp only [Act.put, List.setIfInBounds_toArray, List.set_cons_zero, List.set_cons_succ]
                  refine order_take (o := ⟨_, _, _, _, _, _⟩) (v := ?_) rfl (Or.inl ⟨by rfl, ?_⟩) ?_
                  rotate_left
                  · (rintro X ⟨z1, z2, z3, z4, z5, z6⟩; go_simp; try with_reducible rfl)
                  try simp only [Act.put, List.setIfInBounds_toArray, List.set_cons_zero, List.set_cons_succ]
                  refine order_take (o := ⟨_, _, _, _, _, _⟩) (v := ?_) rfl (Or.inl ⟨by rfl, ?_⟩) ?_
                  rotate_left
                  · (rintro X ⟨z1, z2, z3, z4, z5, z6⟩; go_simp; try with_reducible rfl)
                  try simp only [Act.put, List.setIfInBounds_toArray, List.set_cons_zero, List.set_cons_succ]
                  refine order_take (o := ⟨_, _, _, _, _, _⟩) (v := ?_) rfl (Or.inl ⟨by rfl, ?_⟩) ?_
                  rotate_left
                  · (rintro X ⟨z1, z2, z3, z4, z5, z6⟩; go_simp; try with_reducible rfl)
                  try simp only [Act.put, List.setIfInBounds_toArray, List.set_cons_zero, List.set_cons_succ]
                  refine order_take (o := ⟨_, _, _, _, _, _⟩) (v := ?_) rfl (Or.inl ⟨by rfl, ?_⟩) ?_
                  rotate_left
                  · (rintro X ⟨z1, z2, z3, z4, z5, z6⟩; go_simp; try with_reducible rfl)
                  try simp only [Act.put, List.setIfInBounds_toArray, List.set_cons_zero, List.set_cons_succ]
                  refine order_take (o := ⟨_, _, _, _, _, _⟩) (v := ?_) rfl (Or.inl ⟨by rfl, ?_⟩) ?_
                  rotate_left
                  · (rintro X ⟨z1, z2, z3, z4, z5, z6⟩; go_simp; try with_reducible rfl)
                  try simp only [Act.put, List.setIfInBounds_toArray, List.set_cons_zero, List.set_cons_succ]
                  have hv2 := ownsRow_slice HCr.out.own2
                  obtain ⟨W1, hW1⟩ : ∃ V, V = wr.drew := ⟨_, rfl⟩
                  have HBW := Lib.hid (show Below wr.heap.size wr W1 by rw [hW1]; exact (Below.refl _ wr).drew)
                  have k6 : W1.cell? ⟨g, i * 3, none⟩ = some (In o1) ∧ W1.cell? ⟨g, i * 3 + 1, none⟩ = some (In l1) ∧ W1.cell? ⟨g, i * 3 + 2, none⟩ = some (.slice q1 f1.len c1) ∧ W1.cell? ⟨g, (i + 1) * 3, none⟩ = some (In o2) ∧ W1.cell? ⟨g, (i + 1) * 3 + 1, none⟩ = some (In l2) ∧ W1.cell? ⟨g, (i + 1) * 3 + 2, none⟩ = some (.slice q2 f2.len c2) := by
                    rw [hW1]; exact ⟨a0, a1, a2, b0, b1, b2⟩
                  have HKP : Hid (∀ X, Below W1.heap.size W1 X → X.cell? ⟨g, i * 3, none⟩ = some (In o1) ∧ X.cell? ⟨g, i * 3 + 1, none⟩ = some (In l1) ∧ X.cell? ⟨g, i * 3 + 2, none⟩ = some (.slice q1 f1.len c1) ∧ X.cell? ⟨g, (i + 1) * 3, none⟩ = some (In o2) ∧ X.cell? ⟨g, (i + 1) * 3 + 1, none⟩ = some (In l2) ∧ X.cell? ⟨g, (i + 1) * 3 + 2, none⟩ = some (.slice q2 f2.len c2)) := Lib.hid fun X hX => by
                    have kk : ∀ {p : Addr} {v : Value}, W1.cell? p = some v → X.cell? p = some v := fun e => (hX.cell (World.block_lt_of_cell? W1 _ e)).trans e
                    exact ⟨kk k6.1, kk k6.2.1, kk k6.2.2.1, kk k6.2.2.2.1, kk k6.2.2.2.2.1, kk k6.2.2.2.2.2⟩
                  rw [← hW1]
                  clear hW1 a0 a1 a2 b0 b1 b2 k6 hi1 hi2 hi3
                  refine order_do (o := ⟨_, _, _, _, _, _⟩) rfl (fun K hK => ?_)
                  go_simp
                  obtain ⟨X1, hX1⟩ : ∃ X, X = W1.alloc (.cells #[In o1, In l1, .slice q1 f1.len c1, In o2, In l2, .slice q2 f2.len c2] 26) := ⟨_, rfl⟩
                  have hb1 : Below W1.heap.size W1 X1 := by rw [hX1]; exact (Below.refl _ _).alloc (Nat.le_refl _) _
                  have hs1 : X1.heap.size = W1.heap.size + 1 := by rw [hX1]; simp
                  rw [← hX1]
                  have HX1 := Lib.hid hX1
                  have HB1x := Lib.hid hb1
                  have HS1x := Lib.hid hs1
                  refine hK.out _ _ (HKP.out _ hb1) (fun _ => ?_)
                  clear hK K hX1 hb1 hs1
                  try simp only [Act.put, List.setIfInBounds_toArray, List.set_cons_zero, List.set_cons_succ]
                  refine order_take (o := ⟨_, _, _, _, _, _⟩) (v := ?_) rfl (Or.inl ⟨by rfl, ?_⟩) ?_
                  rotate_left
                  · (rintro X ⟨z1, z2, z3, z4, z5, z6⟩; go_simp; try with_reducible rfl)
                  try simp only [Act.put, List.setIfInBounds_toArray, List.set_cons_zero, List.set_cons_succ]
                  refine order_do (o := ⟨_, _, _, _, _, _⟩) rfl (fun K hK => ?_)
                  go_simp
                  obtain ⟨X2, hX2⟩ : ∃ X, X = X1.alloc (.cells #[In 5, In 0, .slice (some ⟨W1.heap.size, 0, none⟩) 2 2] 26) := ⟨_, rfl⟩
                  have hb2 : Below W1.heap.size W1 X2 := by rw [hX2]; exact HB1x.out.alloc (by rw [HS1x.out]; omega) _
                  rw [← hX2, HS1x.out]
                  have HX2 := Lib.hid hX2
                  have HB2x := Lib.hid hb2
                  refine hK.out _ _ (HKP.out _ hb2) (fun _ => ?_)
                  clear hK K hX2 hb2
                  try simp only [Act.put, List.setIfInBounds_toArray, List.set_cons_zero, List.set_cons_succ]
                  have hbX2 : Below wr.heap.size wr X2 := HBW.out.trans (HB2x.out.mono HBW.out.size)
                  have ho2 := ownsRow_rebase (base' := 0) (ownsRow_below HCr.out.own2 hbX2) (fun _ _ => Nat.zero_le _)
                  have hXX : X2 = (W1.alloc (.cells #[In o1, In l1, .slice q1 f1.len c1, In o2, In l2, .slice q2 f2.len c2] 26)).alloc (.cells #[In 5, In 0, .slice (some ⟨W1.heap.size, 0, none⟩) 2 2] 26) := by rw [HX2.out, HX1.out]
                  have HXX := Lib.hid hXX
                  have hnw : ∀ j u, [In 5, In 0, .slice (some ⟨W1.heap.size, 0, none⟩) 2 2][j]? = some u → X2.cell? ((⟨W1.heap.size + 1, 0, none⟩ : Addr).add j) = some u := by
                    have := cells_new X1 [In 5, In 0, .slice (some ⟨W1.heap.size, 0, none⟩) 2 2] 26
                    rw [HS1x.out] at this
                    rw [HX2.out]
                    exact this
                  have HNW := Lib.hid hnw
                  have HO2 := Lib.hid ho2
                  clear hbX2 ho2 hXX hnw
                  refine order_do (o := ⟨_, _, _, _, _, _⟩) rfl (fun K hK => ?_)
                  refine step_append_lies X2 rfl _ _ 24 rfl 0 26 i0 _ 3 40 Tryd.underlying24 hi0 hz0 hz1 hz2 rfl (by decide) _ G.len ys rfl HO2.out ⟨W1.heap.size + 1, 0, none⟩ 1 1 [In 5, In 0, .slice (some ⟨W1.heap.size, 0, none⟩) 2 2] rfl rfl HNW.out ?ea (by decide) ?eb ?ec (Nat.zero_le _) _ rfl ?ed
                  case ea => intro u hu; simp at hu; rcases hu with rfl | rfl | rfl <;> rfl
                  case eb => unfold maxLen; omega
                  case ec => omega
                  case ed =>
                    intro g' cap' w2 ho hgr hor hlt2
                    have hst := HCr.out.step HDD.out (by omega) HS1.out HS2.out HBW.out HXX.out ho hgr (by
                      rcases hor with e | e
                      · exact .inl e.symm
                      · refine .inr (fun b hb => ?_)
                        have : g' = b := Option.some.inj hb
                        omega)
                    have HST := Lib.hid hst
                    refine hK.out _ _ ?_ (fun _ => ?_)
                    · have hgX := ownsRow_lo (ownsRow_below HCr.out.own (HBW.out.trans (HB2x.out.mono HBW.out.size))) (b := g) rfl
                      have hsame : w2.heap[g]? = X2.heap[g]? := hgr.block g hgX.2 (fun e => (HCr.out.nz2 g e.symm).2 rfl)
                      have kk : ∀ {o : Nat} {v : Value}, X2.cell? ⟨g, o, none⟩ = some v → w2.cell? ⟨g, o, none⟩ = some v := fun e => (World.cell?_of_block (w := X2) hsame).trans e
                      have k6 := HKP.out _ HB2x.out
                      exact ⟨kk k6.1, kk k6.2.1, kk k6.2.2.1, kk k6.2.2.2.1, kk k6.2.2.2.2.1, kk k6.2.2.2.2.2⟩
                    · clear hK K hst ho hgr hor hlt2 HKP HNW HO2 HX1 HX2 HXX HB1x HB2x HS1x HCr HDD HS1 HS2 HBW
                      simp only [Act.put, List.setIfInBounds_toArray, List.set_cons_zero, List.set_cons_succ]
                      refine order_take (o := ⟨_, _, _, _, _, _⟩) (v := ?_) rfl (Or.inl ⟨by rfl, ?_⟩) ?_
                      rotate_left
                      · (rintro X ⟨z1, z2, z3, z4, z5, z6⟩; go_simp; try with_reducible rfl)
                      try simp only [Act.put, List.setIfInBounds_toArray, List.set_cons_zero, List.set_cons_succ]
                      simp only [inOrder, Exit.inBlock]
                      go_wp2
                      go_roundg (F.len - i)
                      case measure => omega
                      case rel => exact ⟨i + 2, _, _, _, by simp, by omega, by omega, HST⟩
                · by_cases hev : i = F.len
                  · have hG := HCr.out.hi
                    have hpar : (((F.len : Int) % 2) == 1) = false := beq_eq_false_iff_ne.2 (by omega)
                    have hnl : ¬ ((i : Int) + 1 < (F.len : Int)) := by omega
                    obtain ⟨g', c', rfl, hB'⟩ := HCr.out.even HB.out h1 hev
                    have hpl := pairUp_len F
                    have HB' := Lib.hid hB'
                    have HPL := Lib.hid hpl
                    clear hB' hpl hG HCr HB hev
                    go_wp2
                    go_roundg (F.len - 1)
                    case measure => omega
                    case rel => exact ⟨k + 1, _, _, _, _, _, rfl, by have := HPL.out; omega, by have := HPL.out; omega, HB'⟩
                  · have hG := HCr.out.hi
                    have hpar : (((F.len : Int) % 2) == 1) = true := beq_iff_eq.2 (by omega)
                    have hnl : ¬ ((i : Int) + 1 < (F.len : Int)) := by omega
                    obtain ⟨o1, l1, f1, q1, c1, hg1, hd1, a0, a1, a2, hs1⟩ := HCr.out.at (j := F.len - 1) (by omega)
                    have hil : F.len - 1 = i := by omega
                    have hdd : F.drop i = .cons o1 l1 f1 .nil := by
                      rw [← hil, hd1, show F.len - 1 + 1 = F.len by omega, Fms.drop_len]
                    have HDD := Lib.hid hdd
                    have HS1 := Lib.hid hs1
                    have hgl : G.len ≤ 265 := by omega
                    obtain ⟨X2, hX2⟩ : ∃ X, X = wr.alloc (.cells #[In o1, In l1, .slice q1 f1.len c1] 26) := ⟨_, rfl⟩
                    have hbX2 : Below wr.heap.size wr X2 := by rw [hX2]; exact (Below.refl _ _).alloc (Nat.le_refl _) _
                    have ho2 := ownsRow_rebase (base' := 0) (ownsRow_below HCr.out.own2 hbX2) (fun _ _ => Nat.zero_le _)
                    have hnw : ∀ j u, [In o1, In l1, .slice q1 f1.len c1][j]? = some u → X2.cell? ((⟨wr.heap.size, 0, none⟩ : Addr).add j) = some u := by
                      rw [hX2]
                      exact cells_new wr [In o1, In l1, .slice q1 f1.len c1] 26
                    have HX2 := Lib.hid hX2
                    have HNW := Lib.hid hnw
                    have HO2 := Lib.hid ho2
                    have hj0 : F.len - 1 < F.len := by omega
                    clear hbX2 ho2 hnw hd1 hg1 hs1 hdd hil hX2 hev hG
                    go_wp2_with (at_builtin; rw [← HX2.out]; refine wpList_append_or _ rfl _ _ 24 rfl 26 i0 _ 3 40 Tryd.underlying24 hi0 hz0 hz1 hz2 rfl (by decide) _ G.len ys rfl HO2.out ⟨wr.heap.size, 0, none⟩ 1 1 [In o1, In l1, .slice q1 f1.len c1] rfl rfl HNW.out ?fa ?fb ?fc (by decide) ?_)
                    case fa => exact ⟨rfl, rfl, rfl⟩
                    case fb => unfold maxLen; omega
                    case fc => omega
                    intro v' w2 ho hgr hn
                    obtain ⟨g', c', rfl, hB'⟩ := HCr.out.last HB.out h1 HDD.out HS1.out HX2.out ho hgr hn
                    have hpl := pairUp_len F
                    have HB' := Lib.hid hB'
                    have HPL := Lib.hid hpl
                    clear ho hgr hn hB' hpl HX2 HNW HO2 HDD HS1 HCr HB a0 a1 a2
                    go_wp2
                    go_roundg (F.len - 1)
                    case measure => omega
                    case rel => exact ⟨k + 1, _, _, _, _, _, rfl, by have := HPL.out; omega, by have := HPL.out; omega, HB'⟩
            · have hl1 : F.len = 1 := by have := HB.out.n1; omega
              obtain ⟨op, la, of, hget, hdrop⟩ := Fms.drop_get (F := F) (i := 0) (by omega)
              have hF : F = .cons op la of .nil := by
                have e : F.drop 0 = F := by cases F <;> rfl
                have e1 : F.drop 1 = .nil := by rw [← hl1, Fms.drop_len]
                rw [← e, hdrop, e1]
              subst hF
              have hone := HB.out.ok.one (by have := HB.out.k9; omega)
              have hsz := HB.out.sz
              simp only [Fms.size, Fms.len] at hsz
              obtain ⟨s, r0, r1, r2, hs⟩ := HB.out.row.2 0 op la of rfl
              obtain ⟨q, cq, rfl⟩ := hs.is.slice
              have a0 := (HB.out.own.cellAt 0 (by simp [Fms.len])).trans r0
              have a1 := (HB.out.own.cellAt 1 (by simp [Fms.len])).trans r1
              have a2 := (HB.out.own.cellAt 2 (by simp [Fms.len])).trans r2
              obtain ⟨cc, hcc⟩ : ∃ cc, cc = chk op la of := ⟨_, rfl⟩
              have HCK : Hid (∀ y : Ext wr, Calls Tryd.prog 14 #[.agg #[.int .i64 op, .int .i64 la, .slice q of.len cq]] y.w fun e w' => e = .returned (.int .i64 cc) ∧ ∃ z : Ext wr, w' = z.w) :=
                Lib.hid fun y => y.calls (by rw [hcc]; exact check_any op la of _ y.w (by omega) (hs.is.later y.b))
              have HRC : Hid (∀ y : Ext wr, Calls Tryd.prog 15 #[.agg #[.int .i64 op, .int .i64 la, .slice q of.len cq]] y.w fun e w' => e = .returned (.int .i64 cc) ∧ ∃ z : Ext wr, w' = z.w) :=
                Lib.hid fun y => y.calls (by rw [hcc]; exact rcheck_any op la of _ y.w (by omega) (hs.is.later y.b))
              have HNM : Hid (∀ y : Ext wr, Calls Tryd.prog 12 #[.int .i64 cc] y.w fun e w' => e = .returned (.int .i64 cc) ∧ ∃ z : Ext wr, w' = z.w) :=
                Lib.hid fun y => y.calls ((num_any cc y.w).mono (by rintro e w' ⟨rfl, rfl⟩; exact ⟨rfl, Below.refl _ _⟩))
              have HWK : Hid (∀ y : Ext wr, Calls Tryd.prog 9 #[] y.w fun e w' => e = .returned (.bool true) ∧ ∃ z : Ext wr, w' = z.w) :=
                Lib.hid fun y => y.calls (works_any y.w)
              have hbw := HB.out.b
              have HBW := Lib.hid hbw
              have htst : (cc == 0) = decide (2 * (m : Int) - 1 ≤ 512) := by
                rw [hcc, hone, Bool.eq_iff_iff, beq_iff_eq, decide_eq_true_eq]
                by_cases hh : (of.size : Int) + 1 ≤ 512
                · rw [if_pos hh]; exact ⟨(fun _ => by omega), (fun _ => rfl)⟩
                · rw [if_neg hh]; exact ⟨(fun h => absurd h (by decide)), (fun h => by omega)⟩
              obtain ⟨tb, htb⟩ : ∃ tb, tb = decide (2 * (m : Int) - 1 ≤ 512) := ⟨_, rfl⟩
              rw [← htb] at htst
              have htb' := htb.symm
              clear htb
              rw [show (Fms.cons op la of Fms.nil).len = 1 from rfl]
              clear hone hsz r0 r1 r2 hs hcc hdrop hget hl1 HB hbw h1
              go_wp2_with fail
              have z0 := fun y : Ext wr => Ext.cell a0 y
              have z1 := fun y : Ext wr => Ext.cell a1 y
              have z2 := fun y : Ext wr => Ext.cell a2 y
              refine wp_region_quiet_class (fun X => ∃ y : Ext wr, X = y.w) (by kernel_rfl) (by kernel_rfl) ⟨Ext.drew wr, rfl⟩ ?_
              repeat (go_big_quiet_step (first | (go_at_call 14; exact HCK.out _) | (go_at_call 15; exact HRC.out _) | (go_at_call 12; exact HNM.out _) | (go_at_call 9; exact HWK.out _)))
              refine wpQuiet_nil ?_
              rintro _ ⟨y, rfl⟩
              go_wp2
              go_ret
              exact ⟨rfl, HBW.out.trans (y.b.mono HBW.out.size)⟩

set_option maxHeartbeats 1000000 in
set_option maxRecDepth 100000 in
theorem bounds_out (p : Option Addr) (len cap : Nat) (m : Int) (w : World) (h : len < 20 ∨ 40 < len ∨ m < 250 ∨ 265 < m) :
    Calls Tryd.prog 4 #[.slice p len cap, .int .i64 m] w fun e w' => e = .returned (.bool true) ∧ Below w.heap.size w w' := by
  by_cases h1 : len < 20
  · have d1 : decide (len < 20) = true := by simpa using h1
    go_enter Tryd.func4, Tryd.ntmps4
    go_wp2_with fail
    refine (works_any w).mono ?_
    rintro e w1 ⟨rfl, hb⟩
    go_wp2
    go_ret
    exact ⟨rfl, hb⟩
  · have d1 : decide (len < 20) = false := by simpa using h1
    by_cases h2 : 40 < len
    · have d2 : decide (40 < len) = true := by simpa using h2
      go_enter Tryd.func4, Tryd.ntmps4
      go_wp2_with fail
      refine (works_any w).mono ?_
      rintro e w1 ⟨rfl, hb⟩
      go_wp2
      go_ret
      exact ⟨rfl, hb⟩
    · have d2 : decide (40 < len) = false := by simpa using h2
      by_cases h3 : m < 250
      · have d3 : decide (m < 250) = true := by simpa using h3
        go_enter Tryd.func4, Tryd.ntmps4
        go_wp2_with fail
        refine (works_any w).mono ?_
        rintro e w1 ⟨rfl, hb⟩
        go_wp2
        go_ret
        exact ⟨rfl, hb⟩
      · have d3 : decide (m < 250) = false := by simpa using h3
        have h4 : 265 < m := by omega
        have d4 : decide (265 < m) = true := by simpa using h4
        go_enter Tryd.func4, Tryd.ntmps4
        go_wp2_with fail
        refine (works_any w).mono ?_
        rintro e w1 ⟨rfl, hb⟩
        go_wp2
        go_ret
        exact ⟨rfl, hb⟩

theorem bounds_any (p : Option Addr) (len cap : Nat) (m : Int) (B : Nat → Bool) (w : World) (hB : ∀ i, i < len → ∃ b off, p = some ⟨b, off, none⟩ ∧ w.cell? ⟨b, off + i, none⟩ = some (.bool (B i))) :
    Calls Tryd.prog 4 #[.slice p len cap, .int .i64 m] w fun e w' => e = .returned (.bool true) ∧ Below w.heap.size w w' := by
  by_cases h : len < 20 ∨ 40 < len ∨ m < 250 ∨ 265 < m
  · exact bounds_out p len cap m w h
  · simp only [not_or] at h
    obtain ⟨k, rfl⟩ : ∃ k : Nat, m = k := ⟨m.toNat, by omega⟩
    have hl : ((List.range len).map B).length = len := by simp
    have := bounds_main ((List.range len).map B) p cap k w (fun i x hx => by
      have hi : i < len := by rw [← hl]; exact (List.getElem?_eq_some_iff.1 hx).1
      have : x = B i := by simpa [hi, eq_comm] using hx
      rw [this]
      exact hB i hi) (by omega) (by omega) (by omega) (by omega)
    rwa [hl] at this
#print axioms bounds_any
end Go.Proofs.YthbkdbnalkeieaaDoor
