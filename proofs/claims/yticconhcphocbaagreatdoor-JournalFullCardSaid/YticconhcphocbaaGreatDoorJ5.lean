/- Rows of steps that are segments; their clones; a step in memory of its own. -/
import Derived.Test.YticconhcphocbaaGreatDoorJ4
import Derived.Test.YticconhcphocbaaGreatDoorStep
import Derived.Laws.CopyOwn
namespace Go.Proofs.YticconhcphocbaaGreatDoor
open Go.RowKit Go.Sort Go.Shelf

/-- A step that puts, or takes, the segment of that number. -/
def sv (x : Bool × Int) : List Value := [.bool x.1, Ii x.2, Ii 0, .bool true, Ii x.2, Ii 0, Ii x.2, Ii 1, .slice none 0 0]
def svs (L : List (Bool × Int)) : List Value := L.flatMap sv
theorem svs_length (L : List (Bool × Int)) : (svs L).length = L.length * 9 := by
  induction L with
  | nil => rfl
  | cons x L ih => simp only [svs, List.flatMap_cons, List.length_append, List.length_cons, sv, List.length_nil] at ih ⊢; omega
theorem svs_one (L : List (Bool × Int)) : ∀ u ∈ svs L, u.oneCell' = true := by
  intro u hu
  obtain ⟨x, _, hu⟩ := List.mem_flatMap.1 hu
  simp [sv] at hu
  rcases hu with rfl | rfl | rfl | rfl | rfl | rfl | rfl | rfl | rfl <;> rfl
theorem svs_append (L M : List (Bool × Int)) : svs (L ++ M) = svs L ++ svs M := by simp [svs]
theorem svs_get : ∀ (L : List (Bool × Int)) (i : Nat) (x : Bool × Int), L[i]? = some x → ∀ k u, (sv x)[k]? = some u → (svs L)[i * 9 + k]? = some u
  | [], i, x, h, k, u, hu => by simp at h
  | y :: L, 0, x, h, k, u, hu => by
    simp at h; subst h
    have hk : k < (sv y).length := (List.getElem?_eq_some_iff.1 hu).1
    simp only [svs, List.flatMap_cons, Nat.zero_mul, Nat.zero_add]
    rw [List.getElem?_append_left hk]; exact hu
  | y :: L, i + 1, x, h, k, u, hu => by
    have := svs_get L i x (by simpa using h) k u hu
    simp only [svs, List.flatMap_cons]
    rw [List.getElem?_append_right (by simp [sv]; omega)]
    have e : (i + 1) * 9 + k - (sv y).length = i * 9 + k := by simp [sv]; omega
    rw [e]; exact this

/-- Steps in memory. -/
def Stp (Z : Nat → Prop) (w : World) (s : Value) (L : List (Bool × Int)) : Prop := Rw Z w 9 s L.length (svs L)
def Grp (Z : Nat → Prop) (w : World) (s : Value) (G : List (List (Bool × Int))) : Prop :=
  ∃ xs, Rw Z w 1 s G.length xs ∧ ∀ (i : Nat) L, G[i]? = some L → ∃ v, xs[i]? = some v ∧ Stp Z w v L

theorem Tryz.info40 : (Tryz.prog.info? 40).map (fun i => (i.zero, i.size, i.bytes)) = some (some (.agg #[.bool false, .int .i64 0, .int .i64 0, .bool false, .int .i64 0, .int .i64 0, .int .i64 0, .int .i64 0, .slice none 0 0]), 9, 88) := by kernel_rfl
theorem Tryz.info46 : (Tryz.prog.info? 46).map (fun i => (i.zero, i.size, i.bytes)) = some (some (.slice none 0 0), 1, 24) := by kernel_rfl

set_option maxHeartbeats 2000000 in
set_option maxRecDepth 100000 in
theorem cl29_some (ad : Addr) (n c : Nat) (news : List Value) (w : World) (hl : news.length = n * 9) (hn : n ≤ 1000000)
    (hc : ∀ j u, news[j]? = some u → w.cell? (ad.add j) = some u) (h1 : ∀ u ∈ news, u.oneCell' = true) :
    Calls Tryz.prog 29 #[.slice (some ad) n c] w fun e w' => ∃ v', e = .returned v' ∧ w'.ownsRow w.heap.size 40 9 v' n news ∧ Below w.heap.size w w' := by
  obtain ⟨i0, hi, hz0, hz1, hz2⟩ := info_parts Tryz.info40
  have A := Lib.hid hc
  have q22 : ∀ (w : World) (a : Option Addr) (n c n' c' : Nat), (binOp .eql 46 (.slice a n c) (.slice none n' c')).run Tryz.prog w = .ok (.bool a.isNone) w := fun w a n c n' c' => Lib.run_eql_slice_nil w _ _ a n c n' c' Tryz.underlying46
  clear hc
  go_enter Tryz.func29, Tryz.ntmps29
  go_wp2_with (at_builtin; refine wpList_append_own _ rfl _ _ 46 rfl w.heap.size 40 i0 (.agg #[.bool false, .int .i64 0, .int .i64 0, .bool false, .int .i64 0, .int .i64 0, .int .i64 0, .int .i64 0, .slice none 0 0]) 9 88 Tryz.underlying46 hi hz0 hz1 hz2 rfl (by decide) _ _ _ rfl (World.ownsRow_made w #[] 0 (Nat.le_refl _) (Nat.zero_le _) (by simp)) ad n c news rfl ?qc1 ?qc2 ?qc3 ?qc4 ?qc5 ?qc6 ?_)
  case qc1 => exact hl
  case qc2 =>
    intro j u hj
    exact Lib.cell?_alloc_some _ (A.out j u hj)
  case qc3 => exact h1
  case qc4 => simp [maxLen]; omega
  case qc5 => omega
  case qc6 => simp
  intro v' w1 hown hgrow hnil
  go_wp2
  go_ret
  refine ⟨v', rfl, by simpa using hown, ?_⟩
  exact ((Below.refl _ w).alloc (Nat.le_refl _) _).grown hgrow (by simp) (by intro k hk; simp [Value.ownBlock] at hk; omega)

set_option maxHeartbeats 1000000 in
theorem cl29_none (n c : Nat) (w : World) : Calls Tryz.prog 29 #[.slice none n c] w fun e w' => e = .returned (.slice none 0 0) ∧ w' = w := by
  have q22 : ∀ (w : World) (a : Option Addr) (n c n' c' : Nat), (binOp .eql 46 (.slice a n c) (.slice none n' c')).run Tryz.prog w = .ok (.bool a.isNone) w := fun w a n c n' c' => Lib.run_eql_slice_nil w _ _ a n c n' c' Tryz.underlying46
  go_enter Tryz.func29, Tryz.ntmps29
  go_wp2
  go_ret
  exact ⟨rfl, rfl⟩

theorem cl29_any {Z : Nat → Prop} (s : Value) (n : Nat) (xs : List Value) (w : World) (h : Rw Z w 9 s n xs) (hn : n ≤ 1000000) (h1 : ∀ u ∈ xs, u.oneCell' = true) :
    Calls Tryz.prog 29 #[s] w fun e w' => ∃ v', e = .returned v' ∧ w'.ownsRow w.heap.size 40 9 v' n xs ∧ Below w.heap.size w w' := by
  rcases h.2 with ⟨rfl, p, c, rfl⟩ | ⟨b, off, c, rfl, _, _, hc⟩
  · have hx : xs = [] := List.length_eq_zero_iff.1 (by have := h.1; simpa using this)
    subst hx
    cases p with
    | none =>
      refine (cl29_none 0 c w).mono ?_
      rintro e w' ⟨rfl, rfl⟩
      exact ⟨_, rfl, ⟨by simp, .inl ⟨rfl, rfl⟩⟩, Below.refl _ _⟩
    | some a => exact cl29_some a 0 c [] w (by simp) (by omega) (by simp) (by simp)
  · exact cl29_some ⟨b, off, none⟩ n c xs w h.1 hn (fun j u hj => by rw [Addr.add_lit]; exact hc j u hj) h1

set_option maxHeartbeats 2000000 in
set_option maxRecDepth 100000 in
theorem cl32_some (ad : Addr) (n c : Nat) (news : List Value) (w : World) (hl : news.length = n * 1) (hn : n ≤ 1000000)
    (hc : ∀ j u, news[j]? = some u → w.cell? (ad.add j) = some u) (h1 : ∀ u ∈ news, u.oneCell' = true) :
    Calls Tryz.prog 32 #[.slice (some ad) n c] w fun e w' => ∃ v', e = .returned v' ∧ w'.ownsRow w.heap.size 46 1 v' n news ∧ Below w.heap.size w w' := by
  obtain ⟨i0, hi, hz0, hz1, hz2⟩ := info_parts Tryz.info46
  have A := Lib.hid hc
  have q22 : ∀ (w : World) (a : Option Addr) (n c n' c' : Nat), (binOp .eql 52 (.slice a n c) (.slice none n' c')).run Tryz.prog w = .ok (.bool a.isNone) w := fun w a n c n' c' => Lib.run_eql_slice_nil w _ _ a n c n' c' Tryz.underlying52
  clear hc
  go_enter Tryz.func32, Tryz.ntmps32
  go_wp2_with (at_builtin; refine wpList_append_own _ rfl _ _ 52 rfl w.heap.size 46 i0 (.slice none 0 0) 1 24 Tryz.underlying52 hi hz0 hz1 hz2 rfl (by decide) _ _ _ rfl (World.ownsRow_made w #[] 0 (Nat.le_refl _) (Nat.zero_le _) (by simp)) ad n c news rfl ?qc1 ?qc2 ?qc3 ?qc4 ?qc5 ?qc6 ?_)
  case qc1 => exact hl
  case qc2 =>
    intro j u hj
    exact Lib.cell?_alloc_some _ (A.out j u hj)
  case qc3 => exact h1
  case qc4 => simp [maxLen]; omega
  case qc5 => omega
  case qc6 => simp
  intro v' w1 hown hgrow hnil
  go_wp2
  go_ret
  refine ⟨v', rfl, by simpa using hown, ?_⟩
  exact ((Below.refl _ w).alloc (Nat.le_refl _) _).grown hgrow (by simp) (by intro k hk; simp [Value.ownBlock] at hk; omega)

set_option maxHeartbeats 1000000 in
theorem cl32_none (n c : Nat) (w : World) : Calls Tryz.prog 32 #[.slice none n c] w fun e w' => e = .returned (.slice none 0 0) ∧ w' = w := by
  have q22 : ∀ (w : World) (a : Option Addr) (n c n' c' : Nat), (binOp .eql 52 (.slice a n c) (.slice none n' c')).run Tryz.prog w = .ok (.bool a.isNone) w := fun w a n c n' c' => Lib.run_eql_slice_nil w _ _ a n c n' c' Tryz.underlying52
  go_enter Tryz.func32, Tryz.ntmps32
  go_wp2
  go_ret
  exact ⟨rfl, rfl⟩

theorem cl32_any {Z : Nat → Prop} (s : Value) (n : Nat) (xs : List Value) (w : World) (h : Rw Z w 1 s n xs) (hn : n ≤ 1000000) (h1 : ∀ u ∈ xs, u.oneCell' = true) :
    Calls Tryz.prog 32 #[s] w fun e w' => ∃ v', e = .returned v' ∧ w'.ownsRow w.heap.size 46 1 v' n xs ∧ Below w.heap.size w w' := by
  rcases h.2 with ⟨rfl, p, c, rfl⟩ | ⟨b, off, c, rfl, _, _, hc⟩
  · have hx : xs = [] := List.length_eq_zero_iff.1 (by have := h.1; simpa using this)
    subst hx
    cases p with
    | none =>
      refine (cl32_none 0 c w).mono ?_
      rintro e w' ⟨rfl, rfl⟩
      exact ⟨_, rfl, ⟨by simp, .inl ⟨rfl, rfl⟩⟩, Below.refl _ _⟩
    | some a => exact cl32_some a 0 c [] w (by simp) (by omega) (by simp) (by simp)
  · exact cl32_some ⟨b, off, none⟩ n c xs w h.1 hn (fun j u hj => by rw [Addr.add_lit]; exact hc j u hj) h1

theorem cl56_none (n c : Nat) (w : World) : Calls Tryz.prog 56 #[.slice none n c] w fun e w' => e = .returned (.slice none 0 0) ∧ w' = w := by
  have q22 : ∀ (w : World) (a : Option Addr) (n c n' c' : Nat), (binOp .eql 33 (.slice a n c) (.slice none n' c')).run Tryz.prog w = .ok (.bool a.isNone) w := fun w a n c n' c' => Lib.run_eql_slice_nil w _ _ a n c n' c' Tryz.underlying33
  go_enter Tryz.func56, Tryz.ntmps56
  go_wp2
  go_ret
  exact ⟨rfl, rfl⟩

set_option maxHeartbeats 2000000 in
set_option maxRecDepth 100000 in
theorem own_any (x : Bool × Int) (w : World) : Calls Tryz.prog 30 #[.agg (sv x).toArray] w fun e w' => e = .returned (.agg (sv x).toArray) ∧ Below w.heap.size w w' := by
  obtain ⟨pt, id⟩ := x
  show Calls Tryz.prog 30 #[.agg #[.bool pt, Ii id, Ii 0, .bool true, Ii id, Ii 0, Ii id, Ii 1, .slice none 0 0]] w fun e w' => e = .returned (.agg #[.bool pt, Ii id, Ii 0, .bool true, Ii id, Ii 0, Ii id, Ii 1, .slice none 0 0]) ∧ Below w.heap.size w w'
  obtain ⟨V, hV⟩ : ∃ V, V = (w.alloc (.cells #[.bool pt, Ii id, Ii 0, .bool true, Ii id, Ii 0, Ii id, Ii 1, .slice none 0 0] 40)).alloc (.cells #[.bool false, Ii 0, Ii 0, .bool false, Ii 0, Ii 0, Ii 0, Ii 0, .slice none 0 0] 40) := ⟨_, rfl⟩
  obtain ⟨b0, hb0⟩ : ∃ b0, b0 = w.heap.size := ⟨_, rfl⟩
  have hb : Below w.heap.size w V := by rw [hV]; exact ((Below.refl _ w).alloc (Nat.le_refl _) _).alloc (by rw [World.size_alloc]; omega) _
  have hk : V.heap[b0]? = some (.cells #[.bool pt, Ii id, Ii 0, .bool true, Ii id, Ii 0, Ii id, Ii 1, .slice none 0 0] 40 (0, 0)) := by rw [hV, hb0]; exact block_alloc_old _ (block_alloc_new w _)
  have hk1 : V.heap[b0 + 1]? = some (.cells #[.bool false, Ii 0, Ii 0, .bool false, Ii 0, Ii 0, Ii 0, Ii 0, .slice none 0 0] 40 (0, 0)) := by
    have := block_alloc_new (w.alloc (.cells #[.bool pt, Ii id, Ii 0, .bool true, Ii id, Ii 0, Ii id, Ii 1, .slice none 0 0] 40)) (.cells #[.bool false, Ii 0, Ii 0, .bool false, Ii 0, Ii 0, Ii 0, Ii 0, .slice none 0 0] 40)
    rw [World.size_alloc] at this
    rw [hV, hb0]; exact this
  go_enter Tryz.func30, Tryz.ntmps30
  go_upto_region 1 with fail
  rw [← hV, ← hb0]
  have HB := Lib.hid hb
  have HB0 := Lib.hid hb0
  have HK := Lib.hid hk
  have HK1 := Lib.hid hk1
  clear hb hk1 hV hb0
  have c8 := cell_of (o := 8) (v := .slice none 0 0) hk rfl
  have f8 := free_of (o := 8) hk
  clear hk
  go_wp2_with fail
  refine (cl56_none _ _ _).mono ?_
  rintro e w1 ⟨rfl, rfl⟩
  go_upto_region 2 with fail
  obtain ⟨U, hU⟩ : ∃ U, U = w1.setCell ⟨b0, 8, none⟩ (.slice none 0 0) := ⟨_, rfl⟩
  have hb : Below w.heap.size w U := by rw [hU]; exact HB.out.setCell (p := ⟨b0, 8, none⟩) (by show w.heap.size ≤ b0; rw [HB0.out]; omega) _
  have hk : U.heap[b0]? = some (.cells #[.bool pt, Ii id, Ii 0, .bool true, Ii id, Ii 0, Ii id, Ii 1, .slice none 0 0] 40 (0, 0)) := by rw [hU]; exact block_setCell (.slice none 0 0) HK.out
  have hk1 : U.heap[b0 + 1]? = some (.cells #[.bool false, Ii 0, Ii 0, .bool false, Ii 0, Ii 0, Ii 0, Ii 0, .slice none 0 0] 40 (0, 0)) := by rw [hU]; exact (block_setCell_other _ (by show b0 + 1 ≠ b0; omega)).trans HK1.out
  rw [← hU]
  clear c8 f8 HK HK1 hU
  have c0 := cell_of (o := 0) (v := .bool pt) hk rfl
  have c1 := cell_of (o := 1) (v := Ii id) hk rfl
  have c2 := cell_of (o := 2) (v := Ii 0) hk rfl
  have c3 := cell_of (o := 3) (v := .bool true) hk rfl
  have c4 := cell_of (o := 4) (v := Ii id) hk rfl
  have c5 := cell_of (o := 5) (v := Ii 0) hk rfl
  have c6 := cell_of (o := 6) (v := Ii id) hk rfl
  have c7 := cell_of (o := 7) (v := Ii 1) hk rfl
  have c8 := cell_of (o := 8) (v := .slice none 0 0) hk rfl
  have HB2 := Lib.hid hb
  have HK := Lib.hid hk
  have HK1 := Lib.hid hk1
  clear hb hk hk1 HB
  go_wp2_with fail
  refine wp_loop_rounds 1 ?_
  rw [rounds_succ]
  go_upto_region 7 with fail
  obtain ⟨Y, hY⟩ : ∃ Y, Y = U.setRow (b0 + 1) #[.bool pt, Ii id, Ii 0, .bool true, Ii id, Ii 0, Ii id, Ii 1, .slice none 0 0] := ⟨_, rfl⟩
  have hBY : Below w.heap.size w Y := by rw [hY]; exact below_setRow HB2.out (by rw [HB0.out]; omega) _
  have hy : Y.heap[b0 + 1]? = some (.cells #[.bool pt, Ii id, Ii 0, .bool true, Ii id, Ii 0, Ii id, Ii 1, .slice none 0 0] 40 (0, 0)) := by rw [hY]; exact setRow_heap _ _ _ _ _ _ HK1.out
  have d0 := cell_of (o := 0) (v := .bool pt) hy rfl
  have d1 := cell_of (o := 1) (v := Ii id) hy rfl
  have d2 := cell_of (o := 2) (v := Ii 0) hy rfl
  have d3 := cell_of (o := 3) (v := .bool true) hy rfl
  have d4 := cell_of (o := 4) (v := Ii id) hy rfl
  have d5 := cell_of (o := 5) (v := Ii 0) hy rfl
  have d6 := cell_of (o := 6) (v := Ii id) hy rfl
  have d7 := cell_of (o := 7) (v := Ii 1) hy rfl
  have d8 := cell_of (o := 8) (v := .slice none 0 0) hy rfl
  have hsz : (Tryz.prog.info? 40).map (·.size) = some 9 := by kernel_rfl
  have hal : (#[.bool pt, Ii id, Ii 0, .bool true, Ii id, Ii 0, Ii id, Ii 1, .slice none 0 0] : Array Value).all (·.oneCell') = true := by simp [Value.oneCell']
  go_wp2_with (refine wpList_store_row rfl 40 (.tmp 2) (.tmp 32) rfl (b0 + 1) #[.bool pt, Ii id, Ii 0, .bool true, Ii id, Ii 0, Ii id, Ii 1, .slice none 0 0] rfl rfl 40 _ HK1.out hsz rfl hal ?_)
  rw [← hY]
  exact bodyPost_ret (v := .agg #[.bool pt, Ii id, Ii 0, .bool true, Ii id, Ii 0, Ii id, Ii 1, .slice none 0 0]) (by simp [results, Tryz.results30, go_sem, d0, d1, d2, d3, d4, d5, d6, d7, d8]) rfl ⟨rfl, hBY⟩
end Go.Proofs.YticconhcphocbaaGreatDoor
