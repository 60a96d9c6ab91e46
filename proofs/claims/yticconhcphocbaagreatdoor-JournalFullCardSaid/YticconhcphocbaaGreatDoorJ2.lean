/- Which nodes, segments, shapes there are. -/
import Derived.Test.YticconhcphocbaaGreatDoorJ1
import Derived.Laws.StructEq
namespace Go.Proofs.YticconhcphocbaaGreatDoor
open Go.RowKit Go.Sort

/-- May a node be? -/
def ndOk (x y : Int) : Bool := decide (-67108864 ≤ x ∧ x ≤ 67108864) && decide (-67108864 ≤ y ∧ y ≤ 67108864)
def inOk (n : Int) : Bool := decide (-67108864 ≤ n ∧ n ≤ 67108864)
theorem in_any (n : Int) (w : World) : Calls Tryz.prog 88 #[.int .i64 n, .int .i64 (-67108864), .int .i64 67108864] w fun e w' => e = .returned (.bool (inOk n)) ∧ w = w' := by
  by_cases h1 : -67108864 ≤ n
  · by_cases h2 : n ≤ 67108864
    · have e : inOk n = true := by simp [inOk, h1, h2]
      rw [e]
      have d1 : decide (-67108864 ≤ n) = true := by simpa using h1
      have d2 : decide (n ≤ 67108864) = true := by simpa using h2
      clear e
      go_enter Tryz.func88, Tryz.ntmps88
      go_wp2
      go_ret
      exact ⟨rfl, rfl⟩
    · have e : inOk n = false := by simp [inOk, h2]
      rw [e]
      have d1 : decide (-67108864 ≤ n) = true := by simpa using h1
      have d2 : decide (n ≤ 67108864) = false := by simpa using h2
      clear e
      go_enter Tryz.func88, Tryz.ntmps88
      go_wp2
      go_ret
      exact ⟨rfl, rfl⟩
  · have e : inOk n = false := by simp [inOk, h1]
    rw [e]
    have d1 : decide (-67108864 ≤ n) = false := by simpa using h1
    clear e
    go_enter Tryz.func88, Tryz.ntmps88
    go_wp2
    go_ret
    exact ⟨rfl, rfl⟩

def ndE (x y : Int) : Int := if inOk x && inOk y then 0 else 2
theorem node_any (x y : Int) (w : World) : Calls Tryz.prog 70 #[.agg #[.int .i64 x, .int .i64 y]] w fun e w' => e = .returned (.int .i64 (ndE x y)) ∧ Below w.heap.size w w' := by
  have hi := fun W => in_any x W
  have hj := fun W => in_any y W
  unfold ndE
  generalize inOk x = a at hi
  generalize inOk y = b at hj
  have HI := Lib.hid hi
  have HJ := Lib.hid hj
  clear hi hj
  cases a with
  | false =>
    go_enter Tryz.func70, Tryz.ntmps70
    go_wp2_with (refine (HI.out _).mono ?_; rintro e w1 ⟨rfl, rfl⟩)
    go_ret
    exact ⟨rfl, (Below.refl _ w).alloc (Nat.le_refl _) _⟩
  | true =>
    cases b with
    | false =>
      go_enter Tryz.func70, Tryz.ntmps70
      go_wp2_with fail
      refine (HI.out _).mono ?_
      rintro e w1 ⟨rfl, rfl⟩
      go_wp2_with fail
      refine (HJ.out _).mono ?_
      rintro e w1 ⟨rfl, rfl⟩
      go_wp2
      go_ret
      exact ⟨rfl, (Below.refl _ w).alloc (Nat.le_refl _) _⟩
    | true =>
      go_enter Tryz.func70, Tryz.ntmps70
      go_wp2_with fail
      refine (HI.out _).mono ?_
      rintro e w1 ⟨rfl, rfl⟩
      go_wp2_with fail
      refine (HJ.out _).mono ?_
      rintro e w1 ⟨rfl, rfl⟩
      go_wp2
      go_ret
      exact ⟨rfl, (Below.refl _ w).alloc (Nat.le_refl _) _⟩

theorem eql30 (a b c d : Int) (w : World) : (binOp BinOp.eql 30 (.agg #[.int .i64 a, .int .i64 b]) (.agg #[.int .i64 c, .int .i64 d])).run Tryz.prog w = .ok (.bool (a == c && b == d)) w := by
  have u2 := Tryz.underlying2
  have a2 := Tryz.isAgg2
  have z2 := Tryz.sizeOf2
  have hS : Tryz.prog.underlying 30 = some (.struct (Tryz.prog.fieldsOf 30)) := by kernel_rfl
  have hp : Tryz.prog.stoodInHeld 30 = false := by kernel_rfl
  rw [run_eql_struct, show (10000 : Nat) = 9999 + 1 from rfl, run_equalIn_agg w 9999 30 _ _ hS hp]
  simp only [Program.fieldsOf, Tryz.underlying30]
  go_simp
  by_cases h1 : a = c <;> by_cases h2 : b = d <;> simp [h1, h2]
theorem guard30 : Tryz.prog.eqGuardType Tryz.prog.depth 30 = false := by kernel_rfl

/-- What is wrong with a segment. -/
def sgE (a b c d : Int) : Int := if inOk a && inOk b && (inOk c && inOk d) && !(a == c && b == d) then 0 else 2
set_option maxRecDepth 100000 in
theorem seg_any (a b c d : Int) (w : World) : Calls Tryz.prog 68 #[.agg #[.int .i64 a, .int .i64 b, .int .i64 c, .int .i64 d]] w fun e w' => e = .returned (.int .i64 (sgE a b c d)) ∧ Below w.heap.size w w' := by
  obtain ⟨V, hV⟩ : ∃ V, V = w.alloc (.cells #[.int .i64 a, .int .i64 b, .int .i64 c, .int .i64 d] 32) := ⟨_, rfl⟩
  have hb : Below w.heap.size w V := by rw [hV]; exact (Below.refl _ w).alloc (Nat.le_refl _) _
  obtain ⟨b0, hb0⟩ : ∃ b0, b0 = w.heap.size := ⟨_, rfl⟩
  have hk : V.heap[b0]? = some (.cells #[.int .i64 a, .int .i64 b, .int .i64 c, .int .i64 d] 32 (0, 0)) := by rw [hV, hb0]; exact block_alloc_new w _
  have hi := fun W => node_any a b W
  have hj := fun W => node_any c d W
  have he := eql30 a b c d
  have hg30 := guard30
  unfold sgE
  unfold ndE at hi hj
  generalize (inOk a && inOk b) = p at hi
  generalize (inOk c && inOk d) = q at hj
  generalize (a == c && b == d) = r at he
  have HI := Lib.hid hi
  have HJ := Lib.hid hj
  have HB := Lib.hid hb
  have HK := Lib.hid hk
  clear hi hj hb hk
  go_enter Tryz.func68, Tryz.ntmps68
  go_upto_region 1 with fail
  rw [← hV, ← hb0]
  clear hV hb0
  have c0 := cell_of (o := 0) (v := .int .i64 a) HK.out rfl
  have c1 := cell_of (o := 1) (v := .int .i64 b) HK.out rfl
  have c2 := cell_of (o := 2) (v := .int .i64 c) HK.out rfl
  have c3 := cell_of (o := 3) (v := .int .i64 d) HK.out rfl
  cases p with
  | false =>
    go_wp2_with fail
    refine (HI.out _).mono ?_
    rintro e w1 ⟨rfl, hb1⟩
    go_wp2
    go_ret
    exact ⟨rfl, HB.out.trans (hb1.mono HB.out.size)⟩
  | true =>
    go_wp2_with fail
    refine (HI.out _).mono ?_
    rintro e w1 ⟨rfl, hb1⟩
    have hk1 := (hb1.block b0 (lt_of_block HK.out)).trans HK.out
    clear c0 c1 c2 c3
    have c0 := cell_of (o := 0) (v := .int .i64 a) hk1 rfl
    have c1 := cell_of (o := 1) (v := .int .i64 b) hk1 rfl
    have c2 := cell_of (o := 2) (v := .int .i64 c) hk1 rfl
    have c3 := cell_of (o := 3) (v := .int .i64 d) hk1 rfl
    have HB1 := Lib.hid (HB.out.trans (hb1.mono HB.out.size))
    have HK1 := Lib.hid hk1
    clear hb1 hk1 HB HK
    cases q with
    | false =>
      go_wp2_with fail
      refine (HJ.out _).mono ?_
      rintro e w2 ⟨rfl, hb2⟩
      go_wp2
      go_ret
      exact ⟨rfl, HB1.out.trans (hb2.mono HB1.out.size)⟩
    | true =>
      go_wp2_with fail
      refine (HJ.out _).mono ?_
      rintro e w2 ⟨rfl, hb2⟩
      have hk2 := (hb2.block b0 (lt_of_block HK1.out)).trans HK1.out
      clear c0 c1 c2 c3
      have c0 := cell_of (o := 0) (v := .int .i64 a) hk2 rfl
      have c1 := cell_of (o := 1) (v := .int .i64 b) hk2 rfl
      have c2 := cell_of (o := 2) (v := .int .i64 c) hk2 rfl
      have c3 := cell_of (o := 3) (v := .int .i64 d) hk2 rfl
      have HB2 := Lib.hid (HB1.out.trans (hb2.mono HB1.out.size))
      clear hb2 hk2
      cases r with
      | false =>
        go_wp2
        go_ret
        exact ⟨rfl, HB2.out⟩
      | true =>
        go_wp2
        go_ret
        exact ⟨rfl, HB2.out⟩
end Go.Proofs.YticconhcphocbaaGreatDoor
