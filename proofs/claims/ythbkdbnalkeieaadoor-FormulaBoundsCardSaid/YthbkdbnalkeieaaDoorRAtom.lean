/- The walk of the reference's atom. -/
import Derived.Test.YthbkdbnalkeieaaDoorRLev
import Derived.BigRegion
namespace Go.Proofs.YthbkdbnalkeieaaDoor
open Go.RowKit Go.Sort Go.Shelf

theorem ext_take (t : List UInt8) (k : Nat) : ((⟨t.toArray⟩ : ByteArray).extract 0 k).toList = t.take k := by
  rw [ByteArray.toList_eq, ByteArray.data_extract]
  simp
theorem ext_drop (t : List UInt8) (k : Nat) : (⟨t.toArray⟩ : ByteArray).extract k t.length = ⟨(t.drop k).toArray⟩ := by
  apply ByteArray.ext
  rw [ByteArray.data_extract]
  simp
  exact List.take_of_length_le (by simp)
theorem pre_iff (t p : List UInt8) : Lib.hasPrefix t p = true ↔ p.length ≤ t.length ∧ t.take p.length = p := by
  unfold Lib.hasPrefix
  rw [List.isPrefixOf_iff_prefix, List.prefix_iff_eq_take]
  constructor
  · intro h
    refine ⟨?_, h.symm⟩
    have := congrArg List.length h
    simp at this
    omega
  · rintro ⟨_, h⟩
    exact h.symm

set_option maxHeartbeats 4000000 in
set_option maxRecDepth 100000 in
/-- Behind an L. -/
theorem ratom_lay (t : List UInt8) (o : Int) (w : World) : Calls Tryd.prog 50 #[str (76 :: t), .int .i64 o] w fun e w' => REnd w (layFrom 16 t) e w' := by
  obtain ⟨b0, hb0⟩ : ∃ b0, b0 = w.heap.size := ⟨_, rfl⟩
  obtain ⟨W, hW⟩ : ∃ W, W = (w.alloc (.cells #[.int .i64 0, .int .i64 0, .slice none 0 0] 26)).alloc (.cells #[.int .i64 0, .int .i64 0, .slice none 0 0] 26) := ⟨_, rfl⟩
  have hB : Below w.heap.size w W := by rw [hW]; exact ((Below.refl _ w).alloc (Nat.le_refl _) _).alloc (by simp) _
  have k1 : W.heap[b0]? = some (.cells #[.int .i64 0, .int .i64 0, .slice none 0 0] 26 (0, 0)) := by rw [hW, hb0]; exact block_alloc_old _ (block_alloc_new w _)
  have k2 : W.heap[b0 + 1]? = some (.cells #[.int .i64 0, .int .i64 0, .slice none 0 0] 26 (0, 0)) := by
    have := block_alloc_new (w.alloc (.cells #[.int .i64 0, .int .i64 0, .slice none 0 0] 26)) (.cells #[.int .i64 0, .int .i64 0, .slice none 0 0] 26)
    rw [World.size_alloc] at this
    rw [hW, hb0]
    exact this
  have HB := Lib.hid hB
  have HK1 := Lib.hid k1
  have HK2 := Lib.hid k2
  obtain ⟨R0, hR0⟩ : ∃ R0, R0 = layFrom 16 t := ⟨_, rfl⟩
  rw [← hR0]
  have HR0 := Lib.hid hR0
  clear hB k1 k2 hR0
  go_enter Tryd.func50, Tryd.ntmps50
  go_upto_region 2 with fail
  rw [← hW, ← hb0]
  have HB0 := Lib.hid hb0
  clear hW hb0
  have e0 : ∀ h, (⟨(76 :: t).toArray⟩ : ByteArray)[0]'h = 76 := fun _ => rfl
  go_wp2_with fail
  rw [ext_tail]
  clear e0
  go_loopg [8] 17 (fun gg s8 wr => ∃ (n q : Nat), s8 = .int .i64 ((n : Int) - 1) ∧ n ≤ 16 ∧ n + 1 ≤ gg ∧ Hid (wr = W.drewN q) ∧ Hid (R0 = layFrom n t))
  case atStart => exact ⟨16, 0, rfl, Nat.le_refl _, Nat.le_refl _, Lib.hid rfl, HR0⟩
  case round =>
    obtain ⟨n, q, rfl, hn, hgk, HW, HL⟩ := hrel
    have hBr : Below w.heap.size w wr := by rw [HW.out]; exact ⟨HB.out.os, HB.out.tape, HB.out.output, HB.out.size, HB.out.block⟩
    have hk1 : wr.heap[b0]? = some (.cells #[.int .i64 0, .int .i64 0, .slice none 0 0] 26 (0, 0)) := by rw [HW.out]; exact HK1.out
    have hk2 : wr.heap[b0 + 1]? = some (.cells #[.int .i64 0, .int .i64 0, .slice none 0 0] 26 (0, 0)) := by rw [HW.out]; exact HK2.out
    have HBr := Lib.hid hBr
    cases n with
    | zero =>
      have hR : R0 = .bad 310 := HL.out
      have z0 := cell_of (o := 0) (v := .int .i64 0) hk2 rfl
      have z1 := cell_of (o := 1) (v := .int .i64 0) hk2 rfl
      have z2 := cell_of (o := 2) (v := .slice none 0 0) hk2 rfl
      obtain ⟨⟨t0, t1⟩, ⟨t2, t3⟩, ⟨t4, t5⟩, t6⟩ := store3 hk1 (.int .i64 0) (.int .i64 0) (.slice none 0 0)
      have u0 := cell_of (o := 0) (v := .int .i64 0) t6 rfl
      have u1 := cell_of (o := 1) (v := .int .i64 0) t6 rfl
      have u2 := cell_of (o := 2) (v := .slice none 0 0) t6 rfl
      have HR := Lib.hid hR
      clear hR hBr hk1 hk2 t6
      go_wp2
      refine ⟨rfl, .tuple #[.agg #[.int .i64 0, .int .i64 0, .slice none 0 0], str [], .int .i64 310], ?_, ?_⟩
      · simp [results, Tryd.f50, go_sem, u0, u1, u2]
      · rw [HR.out]
        exact ⟨⟨rfl, by decide⟩, (st3 HB0.out HBr.out _ _ _).1⟩
    | succ n =>
      have e1 : ((n + 1 : Nat) : Int) - 1 = n := by omega
      rw [e1]
      clear e1
      have hL : R0 = if Lib.hasPrefix t (Lib.decDigits n) then .ok 1 n .nil (Lib.trimPrefix t (Lib.decDigits n)) else layFrom n t := HL.out
      have hNum := number_any n (by omega) wr
      obtain ⟨p, hp⟩ : ∃ p, p = Lib.decDigits n := ⟨_, rfl⟩
      rw [← hp] at hL hNum
      have HNum := Lib.hid hNum
      have HLp := Lib.hid hL
      clear hL hNum hp HL hBr
      cases hpre : Lib.hasPrefix t p with
      | true =>
        obtain ⟨hle, htk⟩ := (pre_iff t p).1 hpre
        have hle' : (p.length : Int) ≤ t.length := by omega
        have heq : (((⟨t.toArray⟩ : ByteArray).extract 0 p.length).toList == p) = true := by rw [ext_take, htk]; simp
        have hR : R0 = .ok 1 n .nil (t.drop p.length) := by
          rw [HLp.out, hpre, if_pos rfl]
          unfold Lib.trimPrefix
          rw [hpre, if_pos rfl]
        obtain ⟨⟨t0, t1⟩, ⟨t2, t3⟩, ⟨t4, t5⟩, t6⟩ := store3 hk1 (.int .i64 1) (.int .i64 n) (.slice none 0 0)
        have u0 := cell_of (o := 0) (v := .int .i64 1) t6 rfl
        have u1 := cell_of (o := 1) (v := .int .i64 n) t6 rfl
        have u2 := cell_of (o := 2) (v := .slice none 0 0) t6 rfl
        have HR := Lib.hid hR
        have HED := Lib.hid (ext_drop t p.length)
        clear hR hpre htk t6 hk1 hk2
        go_wp2_with fail
        refine HNum.out.mono ?_
        rintro e v1 ⟨rfl, rfl⟩
        go_upto_region 12 with fail
        go_region
        rw [HED.out]
        go_wp2
        refine ⟨rfl, .tuple #[.agg #[.int .i64 1, .int .i64 n, .slice none 0 0], str (t.drop p.length), .int .i64 0], ?_, ?_⟩
        · simp [results, Tryd.f50, go_sem, u0, u1, u2]
        · rw [HR.out]
          exact ⟨⟨_, rfl, .inl ⟨rfl, none, 0, rfl⟩⟩, (st3 HB0.out HBr.out _ _ _).1.drew⟩
      | false =>
        have hR : R0 = layFrom n t := by rw [HLp.out, hpre, if_neg (by decide)]
        have hno : p.length ≤ t.length → (((⟨t.toArray⟩ : ByteArray).extract 0 p.length).toList == p) = false := fun h => by
          rw [ext_take]
          simp only [beq_eq_false_iff_ne, ne_eq]
          intro e
          rw [(pre_iff t p).2 ⟨h, e⟩] at hpre
          cases hpre
        have HR := Lib.hid hR
        clear hR hpre hk1 hk2
        by_cases hle : p.length ≤ t.length
        · have heq := hno hle
          clear hno
          go_wp2_with fail
          refine HNum.out.mono ?_
          rintro e v1 ⟨rfl, rfl⟩
          go_wp2
          go_roundg (n + 1)
          case measure => omega
          case rel => exact ⟨n, q, rfl, by omega, Nat.le_refl _, HW, HR⟩
        · clear hno
          go_wp2_with fail
          refine HNum.out.mono ?_
          rintro e v1 ⟨rfl, rfl⟩
          go_wp2
          go_roundg (n + 1)
          case measure => omega
          case rel => exact ⟨n, q, rfl, by omega, Nat.le_refl _, HW, HR⟩

/-- The cells of atom as it begins. -/
theorem ratom_start (w : World) : ∃ W, W = (w.alloc (.cells #[.int .i64 0, .int .i64 0, .slice none 0 0] 26)).alloc (.cells #[.int .i64 0, .int .i64 0, .slice none 0 0] 26) ∧ Below w.heap.size w W ∧
    W.heap[w.heap.size]? = some (.cells #[.int .i64 0, .int .i64 0, .slice none 0 0] 26 (0, 0)) ∧ W.heap[w.heap.size + 1]? = some (.cells #[.int .i64 0, .int .i64 0, .slice none 0 0] 26 (0, 0)) := by
  refine ⟨_, rfl, ((Below.refl _ w).alloc (Nat.le_refl _) _).alloc (by simp) _, block_alloc_old _ (block_alloc_new w _), ?_⟩
  have := block_alloc_new (w.alloc (.cells #[.int .i64 0, .int .i64 0, .slice none 0 0] 26)) (.cells #[.int .i64 0, .int .i64 0, .slice none 0 0] 26)
  rw [World.size_alloc] at this
  exact this

set_option maxHeartbeats 4000000 in
set_option maxRecDepth 100000 in
/-- What begins no atom; what is open too deep. -/
theorem ratom_bad (s : List UInt8) (o : Int) (w : World) (x : Int) (h : (x = 310 ∧ firstB s ≠ 76 ∧ firstB s ≠ 33 ∧ firstB s ≠ 40) ∨ (x = 311 ∧ (firstB s = 33 ∨ firstB s = 40) ∧ 32 ≤ o)) :
    Calls Tryd.prog 50 #[str s, .int .i64 o] w fun e w' => REnd w (.bad x) e w' := by
  obtain ⟨W, hW, hB, hk1, hk2⟩ := ratom_start w
  obtain ⟨b0, hb0⟩ : ∃ b0, b0 = w.heap.size := ⟨_, rfl⟩
  rw [← hb0] at hk1 hk2
  have z0 := cell_of (o := 0) (v := .int .i64 0) hk2 rfl
  have z1 := cell_of (o := 1) (v := .int .i64 0) hk2 rfl
  have z2 := cell_of (o := 2) (v := .slice none 0 0) hk2 rfl
  obtain ⟨⟨t0, t1⟩, ⟨t2, t3⟩, ⟨t4, t5⟩, t6⟩ := store3 hk1 (.int .i64 0) (.int .i64 0) (.slice none 0 0)
  have u0 := cell_of (o := 0) (v := .int .i64 0) t6 rfl
  have u1 := cell_of (o := 1) (v := .int .i64 0) t6 rfl
  have u2 := cell_of (o := 2) (v := .slice none 0 0) t6 rfl
  have HB := Lib.hid hB
  clear hB hk1 hk2 t6
  have hend : ∀ x : Int, x ≠ 0 → REnd w (.bad x) (.returned (.tuple #[.agg #[.int .i64 0, .int .i64 0, .slice none 0 0], str [], .int .i64 x])) (((W.setCell ⟨b0, 0, none⟩ (.int .i64 0)).setCell ⟨b0, 1, none⟩ (.int .i64 0)).setCell ⟨b0, 2, none⟩ (.slice none 0 0)) :=
    fun x hx => ⟨⟨rfl, hx⟩, (st3 hb0 HB.out _ _ _).1⟩
  have HE := Lib.hid hend
  clear hend
  go_enter Tryd.func50, Tryd.ntmps50
  go_upto_region 2 with fail
  rw [← hW, ← hb0]
  have HB0 := Lib.hid hb0
  clear hW hb0
  cases s with
  | nil =>
    obtain rfl : x = 310 := by
      rcases h with ⟨h, _⟩ | ⟨_, h, _⟩
      · exact h
      · rcases h with h | h <;> cases h
    clear h
    go_wp2
    refine ⟨rfl, .tuple #[.agg #[.int .i64 0, .int .i64 0, .slice none 0 0], str [], .int .i64 310], ?_, HE.out 310 (by decide)⟩
    simp [results, Tryd.f50, go_sem, u0, u1, u2]
  | cons c t =>
    have e0 : ∀ h, (⟨(c :: t).toArray⟩ : ByteArray)[0]'h = c := fun _ => rfl
    rcases h with ⟨rfl, h1, h2, h3⟩ | ⟨rfl, h1, h2⟩
    · have f1 : ((c.toNat : Int) == 76) = false := u8_ne (k := 76) (by decide) h1
      have f2 : ((c.toNat : Int) == 33) = false := u8_ne (k := 33) (by decide) h2
      have f3 : ((c.toNat : Int) == 40) = false := u8_ne (k := 40) (by decide) h3
      clear h1 h2 h3
      go_wp2
      refine ⟨rfl, .tuple #[.agg #[.int .i64 0, .int .i64 0, .slice none 0 0], str [], .int .i64 310], ?_, HE.out 310 (by decide)⟩
      simp [results, Tryd.f50, go_sem, u0, u1, u2]
    · have h1' : c = 33 ∨ c = 40 := h1
      clear h1
      rcases h1' with rfl | rfl
      all_goals
        go_wp2
        refine ⟨rfl, .tuple #[.agg #[.int .i64 0, .int .i64 0, .slice none 0 0], str [], .int .i64 311], ?_, HE.out 311 (by decide)⟩
        simp [results, Tryd.f50, go_sem, u0, u1, u2]
end Go.Proofs.YthbkdbnalkeieaaDoor
