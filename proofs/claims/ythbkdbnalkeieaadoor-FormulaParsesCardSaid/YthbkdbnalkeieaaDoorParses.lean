/- The walk of FormulaParses: it answers true. -/
import Derived.Test.YthbkdbnalkeieaaDoorRParse
import Derived.Test.YthbkdbnalkeieaaDoorRSame
namespace Go.Proofs.YthbkdbnalkeieaaDoor
open Go.RowKit Go.Sort Go.Shelf

set_option maxHeartbeats 4000000 in
set_option maxRecDepth 100000 in
theorem parses_any (s : List UInt8) (w : World) : Calls Tryd.prog 3 #[str s] w fun e w' => e = .returned (.bool true) ∧ Below w.heap.size w w' := by
  by_cases hlen : s.length ≤ 5000
  rotate_left
  · have hl : (5000 : Int) < s.length := by omega
    go_enter Tryd.func3, Tryd.ntmps3
    go_wp2_with fail
    refine (works_any _).mono ?_
    rintro e wz ⟨rfl, hbz⟩
    go_wp2
    go_ret
    exact ⟨rfl, hbz⟩
  have hl : decide ((5000 : Int) < s.length) = false := decide_eq_false (by omega)
  have hp := parse_any s w
  have hr := fun v => rparse_any s v
  generalize hrd : rd s = pr at hp hr
  obtain ⟨op, la, of, no, hp2, hr2⟩ : ∃ (op la : Int) (of : Fms) (no : Int), (Calls Tryd.prog 10 #[str s] w fun e w' => (∃ p c, e = .returned (.tuple #[.agg #[.int .i64 op, .int .i64 la, .slice p of.len c], .int .i64 no]) ∧ SlIs w' (.slice p of.len c) of) ∧ Below w.heap.size w w') ∧
      ((∀ v, Calls Tryd.prog 11 #[str s] v fun e w' => (∃ p c, e = .returned (.tuple #[.agg #[.int .i64 op, .int .i64 la, .slice p of.len c], .int .i64 no]) ∧ SlIs w' (.slice p of.len c) of) ∧ Below v.heap.size v w') ∧ of.size < 1000000) := by
    cases pr with
    | bad x =>
      refine ⟨0, 0, .nil, x, hp.mono ?_, fun v => (hr v).mono ?_, by decide⟩
      · rintro e w' ⟨rfl, hb⟩
        exact ⟨⟨none, 0, rfl, .inl ⟨rfl, none, 0, rfl⟩⟩, hb⟩
      · rintro e w' ⟨rfl, hb⟩
        exact ⟨⟨none, 0, rfl, .inl ⟨rfl, none, 0, rfl⟩⟩, hb⟩
    | ok op la of r =>
      have hz := (rd_ok hrd).2.2.1
      refine ⟨op, la, of, 0, hp.mono ?_, fun v => (hr v).mono ?_, by omega⟩
      · rintro e w' ⟨⟨s', rfl, hs'⟩, hb⟩
        obtain ⟨p', cap', rfl⟩ := hs'.is.slice
        exact ⟨⟨p', cap', rfl, hs'.is⟩, hb⟩
      · rintro e w' ⟨⟨s', rfl, hs'⟩, hb⟩
        obtain ⟨p', cap', rfl⟩ := hs'.is.slice
        exact ⟨⟨p', cap', rfl, hs'.is⟩, hb⟩
  have HP := Lib.hid hp2
  have HR := Lib.hid hr2.1
  have hsz := hr2.2
  clear hp hr hp2 hr2 hrd
  go_enter Tryd.func3, Tryd.ntmps3
  go_wp2_with fail
  refine HP.out.mono ?_
  rintro e w1 ⟨⟨p1, c1, rfl, hs1⟩, hb1⟩
  obtain ⟨g1, gb1⟩ := FormAt.new (op := op) (la := la) hs1
  obtain ⟨b1, hb1e⟩ : ∃ b, b = w1.heap.size := ⟨_, rfl⟩
  obtain ⟨V1, hV1⟩ : ∃ V, V = w1.alloc (.cells #[.int .i64 op, .int .i64 la, .slice p1 of.len c1] 26) := ⟨_, rfl⟩
  rw [← hb1e, ← hV1] at g1
  rw [← hV1] at gb1
  have HB1 := Lib.hid (hb1.trans (gb1.mono hb1.size))
  have G1 := Lib.hid g1
  clear g1 gb1 hb1 hs1
  go_wp2_with fail
  rw [← hV1, ← hb1e]
  clear hV1 hb1e
  refine (HR.out V1).mono ?_
  rintro e w2 ⟨⟨p2, c2, rfl, hs2⟩, hb2⟩
  obtain ⟨g2, gb2⟩ := FormAt.new (op := op) (la := la) hs2
  obtain ⟨b2, hb2e⟩ : ∃ b, b = w2.heap.size := ⟨_, rfl⟩
  obtain ⟨V2, hV2⟩ : ∃ V, V = w2.alloc (.cells #[.int .i64 op, .int .i64 la, .slice p2 of.len c2] 26) := ⟨_, rfl⟩
  rw [← hb2e, ← hV2] at g2
  rw [← hV2] at gb2
  have hbb := HB1.out.trans (hb2.mono HB1.out.size)
  have HB2 := Lib.hid (hbb.trans (gb2.mono hbb.size))
  have G2 := Lib.hid g2
  have G12 := Lib.hid ((G1.out.later hb2).later gb2)
  clear g2 gb2 hb2 hs2 hbb HB1 G1
  go_upto_region 5 with fail
  rw [← hV2, ← hb2e]
  clear hV2 hb2e
  obtain ⟨a0, a1, a2⟩ := G12.out.c
  obtain ⟨a3, a4, a5⟩ := G2.out.c
  have hsame : sameF op la of op la of = true := (sameF_iff _ _ _ _ _ _).2 ⟨rfl, rfl, rfl⟩
  have HSM := Lib.hid (rsame_any op la of op la of (.slice p1 of.len c1) (.slice p2 of.len c2) V2 hsz G12.out.2 G2.out.2)
  rw [hsame] at HSM
  clear hsame
  go_wp2_with fail
  refine (num_any no V2).mono ?_
  rintro e w3 ⟨rfl, rfl⟩
  go_wp2_with fail
  refine HSM.out.mono ?_
  rintro e w3 ⟨rfl, hb3⟩
  have HB3 := Lib.hid (HB2.out.trans (hb3.mono HB2.out.size))
  clear hb3 a0 a1 a2 a3 a4 a5
  go_wp2_with fail
  refine (works_any _).mono ?_
  rintro e wz ⟨rfl, hbz⟩
  go_wp2
  go_ret
  exact ⟨rfl, HB3.out.trans (hbz.mono HB3.out.size)⟩
#print axioms parses_any
end Go.Proofs.YthbkdbnalkeieaaDoor
