/- The walks of told, num, works: the chapter's rows answer as they should. -/
import Derived.Test.YthbkdbnalkeieaaDoorParse
import Derived.Test.YthbkdbnalkeieaaDoorLayers
namespace Go.Proofs.YthbkdbnalkeieaaDoor
open Go.RowKit Go.Sort Go.Shelf

/-- The layers of a formula, as they stand in it. -/
def lyF : Fms → List Int
  | .nil => []
  | .cons op la of r => (if op = 1 then [la] else []) ++ (lyF of ++ lyF r)
def ly (op la : Int) (of : Fms) : List Int := (if op = 1 then [la] else []) ++ lyF of
theorem lays_append (a b : List Part) : lays (a ++ b) = lays a ++ lays b := by simp [lays]
theorem lays_cons (x : Part) (b : List Part) : lays (x :: b) = (if x.op = 1 then [x.la] else []) ++ lays b := by
  by_cases h : x.op = 1
  · simp [lays, h]
  · simp [lays, h]
theorem lays_list : ∀ A : Anf, lays A.list = lyF A.er
  | .nil => rfl
  | .cons op la p cap of r => by
    simp only [Anf.list, Anf.er, lyF, lays_cons, lays_append, lays_list of, lays_list r]
theorem laysOf_eq (op la : Int) (A : Anf) (p : Option Addr) (cap : Nat) : laysOf op la A p cap = ly op la A.er := by
  simp only [laysOf, lays_cons, lays_list, ly]
def lyS (op la : Int) (of : Fms) : List Int := Lib.compact ((ly op la of).mergeSort fun x y => decide (x ≤ y))
theorem Layers_any (op la : Int) (of : Fms) (s : Value) (w : World) (hc : chk op la of = 0) (hsz : of.size < 1000000) (hs : SlIs w s of) :
    Calls Tryd.prog 18 #[.agg #[.int .i64 op, .int .i64 la, s]] w fun e w' => LaysEnd w (lyS op la of) e w' :=
  (Layers_ok op la of s w hc hsz hs).mono fun e w' ⟨A, p, cap, h1, h2⟩ => by rw [laysOf_eq, h1] at h2; exact h2

theorem r1 : rd [76, 48, 38, 76, 49, 94, 33, 76, 50] = .ok 5 0 (.cons 3 0 (.cons 1 0 .nil (.cons 1 1 .nil .nil)) (.cons 2 0 (.cons 1 2 .nil .nil) .nil)) [] := by kernel_rfl
theorem r2 : rd [76, 48, 45, 76, 49, 45, 76, 50] = .ok 4 0 (.cons 4 0 (.cons 1 0 .nil (.cons 1 1 .nil .nil)) (.cons 1 2 .nil .nil)) [] := by kernel_rfl
theorem r3 : rd [76, 49, 54] = .bad 310 := by kernel_rfl
theorem r4 : rd [76, 48, 38] = .bad 310 := by kernel_rfl
theorem r5 : rd [76, 48, 49] = .bad 310 := by kernel_rfl
theorem r6 : rd [] = .bad 310 := by kernel_rfl
theorem r7 : rd [76, 48, 45, 76, 49] = .ok 4 0 (.cons 1 0 .nil (.cons 1 1 .nil .nil)) [] := by kernel_rfl
theorem r8 : rd [33, 76, 51] = .ok 2 0 (.cons 1 3 .nil .nil) [] := by kernel_rfl
theorem r9 : rd [76, 51, 94, 76, 49, 38, 76, 51] = .ok 5 0 (.cons 1 3 .nil (.cons 3 0 (.cons 1 1 .nil (.cons 1 3 .nil .nil)) .nil)) [] := by kernel_rfl
theorem t1 : txt 5 0 (.cons 3 0 (.cons 1 0 .nil (.cons 1 1 .nil .nil)) (.cons 2 0 (.cons 1 2 .nil .nil) .nil)) = [40, 40, 76, 48, 38, 76, 49, 41, 94, 33, 76, 50, 41] := by kernel_rfl
theorem t2 : txt 4 0 (.cons 4 0 (.cons 1 0 .nil (.cons 1 1 .nil .nil)) (.cons 1 2 .nil .nil)) = [40, 40, 76, 48, 45, 76, 49, 41, 45, 76, 50, 41] := by kernel_rfl
theorem c1 : chk 5 0 (.cons 3 0 (.cons 1 0 .nil (.cons 1 1 .nil .nil)) (.cons 2 0 (.cons 1 2 .nil .nil) .nil)) = 0 := by kernel_rfl
theorem c2 : chk 4 0 (.cons 4 0 (.cons 1 0 .nil (.cons 1 1 .nil .nil)) (.cons 1 2 .nil .nil)) = 0 := by kernel_rfl
theorem c7 : chk 4 0 (.cons 1 0 .nil (.cons 1 1 .nil .nil)) = 0 := by kernel_rfl
theorem c8 : chk 2 0 (.cons 1 3 .nil .nil) = 0 := by kernel_rfl
theorem c9 : chk 5 0 (.cons 1 3 .nil (.cons 3 0 (.cons 1 1 .nil (.cons 1 3 .nil .nil)) .nil)) = 0 := by kernel_rfl
theorem h1 : holdsE 4 0 (.cons 1 0 .nil (.cons 1 1 .nil .nil)) 1 = true := by kernel_rfl
theorem h2 : holdsE 4 0 (.cons 1 0 .nil (.cons 1 1 .nil .nil)) 3 = false := by kernel_rfl
theorem h3 : holdsE 2 0 (.cons 1 3 .nil .nil) 0 = true := by kernel_rfl
theorem l1 : lyS 5 0 (.cons 1 3 .nil (.cons 3 0 (.cons 1 1 .nil (.cons 1 3 .nil .nil)) .nil)) = [1, 3] := by
  have e : ly 5 0 (.cons 1 3 .nil (.cons 3 0 (.cons 1 1 .nil (.cons 1 3 .nil .nil)) .nil)) = [3, 1, 3] := by decide
  unfold lyS
  rw [e]
  have e2 : ([3, 1, 3] : List Int).mergeSort (fun x y => decide (x ≤ y)) = [1, 3, 3] := by simp [List.mergeSort, List.MergeSort.Internal.splitInTwo]
  rw [e2]
  decide

theorem num_any (x : Int) (w : World) : Calls Tryd.prog 12 #[.int .i64 x] w fun e w' => e = .returned (.int .i64 x) ∧ w = w' := by
  go_enter Tryd.func12, Tryd.ntmps12
  go_wp2
  go_ret
  exact ⟨rfl, rfl⟩

/-- What is read may be. -/
theorem rd_ok {s : List UInt8} {op la : Int} {of : Fms} {r : List UInt8} (h : rd s = .ok op la of r) : chk op la of = 0 ∧ r = [] ∧ of.size < 5000 ∧ s.length ≤ 4096 ∧ prs (8 * s.length + 9) (.lev 3) 0 s = .ok op la of [] := by
  unfold rd at h
  split at h
  · rename_i hl
    split at h
    · cases h
    · rename_i op' la' of' r' hp
      split at h
      · split at h
        · rename_i hr hc
          cases h
          subst hr
          have h := (ok_shorter _ _ _ _ _ _ _ _ hp).2
          have hp' : (Md.lev 3).part ≤ 1 := by decide
          simp at h
          exact ⟨hc, rfl, by omega, hl, hp⟩
        · cases h
      · cases h
  · cases h

set_option maxHeartbeats 1000000 in
theorem told_ok (s : List UInt8) (op la : Int) (of : Fms) (r : List UInt8) (w : World) (h : rd s = .ok op la of r) :
    Calls Tryd.prog 26 #[str s] w fun e w' => e = .returned (.tuple #[str (txt op la of), .int .i64 0]) ∧ Below w.heap.size w w' := by
  obtain ⟨hc, _, hsz, _⟩ := rd_ok h
  have hP := parse_any s w
  rw [h] at hP
  have HP := Lib.hid hP
  have HC := Lib.hid hc
  clear hP hc h
  go_enter Tryd.func26, Tryd.ntmps26
  go_wp2_with fail
  refine HP.out.mono ?_
  rintro e w1 ⟨⟨sv, rfl, hs⟩, hb1⟩
  obtain ⟨p, cap, rfl⟩ := hs.is.slice
  have hbA : Below w1.heap.size w1 (w1.alloc (.cells #[.int .i64 op, .int .i64 la, .slice p of.len cap] 26)) := (Below.refl _ w1).alloc (Nat.le_refl _) _
  have HT := Lib.hid (Text_any op la of (.slice p of.len cap) _ (by omega) (hs.is.later hbA))
  have HB := Lib.hid (hb1.trans (hbA.mono hb1.size))
  clear hs hb1 hbA
  go_wp2_with fail
  refine HT.out.mono ?_
  rw [HC.out, if_pos rfl]
  rintro e w2 ⟨rfl, hb2⟩
  have HB2 := Lib.hid (HB.out.trans (hb2.mono HB.out.size))
  clear hb2
  go_wp2_with fail
  refine (num_any 0 _).mono ?_
  rintro e w3 ⟨rfl, rfl⟩
  go_wp2_with fail
  refine (num_any 0 _).mono ?_
  rintro e w3 ⟨rfl, rfl⟩
  go_wp2
  go_ret2
  exact ⟨rfl, HB2.out⟩

set_option maxHeartbeats 1000000 in
theorem told_bad (s : List UInt8) (x : Int) (w : World) (h : rd s = .bad x) (hx : x ≠ 0) :
    Calls Tryd.prog 26 #[str s] w fun e w' => e = .returned (.tuple #[str [], .int .i64 x]) ∧ Below w.heap.size w w' := by
  have hP := parse_any s w
  rw [h] at hP
  have HP := Lib.hid hP
  have e1 : (x == 0) = false := beq_eq_false_iff_ne.2 hx
  clear hP h hx
  go_enter Tryd.func26, Tryd.ntmps26
  go_wp2_with fail
  refine HP.out.mono ?_
  rintro e w1 ⟨rfl, hb1⟩
  have hbA : Below w1.heap.size w1 (w1.alloc (.cells #[.int .i64 0, .int .i64 0, .slice none 0 0] 26)) := (Below.refl _ w1).alloc (Nat.le_refl _) _
  have HT := Lib.hid (Text_any 0 0 .nil (.slice none 0 0) (w1.alloc (.cells #[.int .i64 0, .int .i64 0, .slice none 0 0] 26)) (by decide) (.inl ⟨rfl, none, 0, rfl⟩))
  have HB := Lib.hid (hb1.trans (hbA.mono hb1.size))
  clear hb1 hbA
  go_wp2_with fail
  refine HT.out.mono ?_
  rintro e w2 ⟨rfl, hb2⟩
  have HB2 := Lib.hid (HB.out.trans (hb2.mono HB.out.size))
  clear hb2
  go_wp2_with fail
  refine (num_any x _).mono ?_
  rintro e w3 ⟨rfl, rfl⟩
  go_wp2_with fail
  refine (num_any x _).mono ?_
  rintro e w3 ⟨rfl, rfl⟩
  go_wp2
  go_ret2
  exact ⟨rfl, HB2.out⟩

/-- A variable that holds a formula. -/
def FormAt (w : World) (b : Nat) (op la : Int) (of : Fms) (p : Option Addr) (cap : Nat) : Prop :=
  w.heap[b]? = some (.cells #[In op, In la, .slice p of.len cap] 26 (0, 0)) ∧ SlIs w (.slice p of.len cap) of
theorem FormAt.later {w w' : World} {b : Nat} {op la : Int} {of : Fms} {p : Option Addr} {cap : Nat} (h : FormAt w b op la of p cap) (hb : Below w.heap.size w w') : FormAt w' b op la of p cap :=
  ⟨(hb.block b (lt_of_block h.1)).trans h.1, h.2.later hb⟩
theorem FormAt.c {w : World} {b : Nat} {op la : Int} {of : Fms} {p : Option Addr} {cap : Nat} (h : FormAt w b op la of p cap) :
    w.cell? ⟨b, 0, none⟩ = some (In op) ∧ w.cell? ⟨b, 1, none⟩ = some (In la) ∧ w.cell? ⟨b, 2, none⟩ = some (.slice p of.len cap) := ⟨cell_of h.1 rfl, cell_of h.1 rfl, cell_of h.1 rfl⟩
/-- What is parsed and stored lies there. -/
theorem FormAt.new {w : World} {op la : Int} {of : Fms} {p : Option Addr} {cap : Nat} (h : SlIs w (.slice p of.len cap) of) :
    FormAt (w.alloc (.cells #[.int .i64 op, .int .i64 la, .slice p of.len cap] 26)) w.heap.size op la of p cap ∧ Below w.heap.size w (w.alloc (.cells #[.int .i64 op, .int .i64 la, .slice p of.len cap] 26)) :=
  ⟨⟨block_alloc_new w _, h.later ((Below.refl _ w).alloc (Nat.le_refl _) _)⟩, (Below.refl _ w).alloc (Nat.le_refl _) _⟩

set_option maxHeartbeats 4000000 in
set_option maxRecDepth 100000 in
theorem works_any (w : World) : Calls Tryd.prog 9 #[] w fun e w' => e = .returned (.bool true) ∧ Below w.heap.size w w' := by
  go_enter Tryd.func9, Tryd.ntmps9
  go_wp2_with fail
  refine (told_ok _ _ _ _ _ w r1).mono ?_
  rw [t1]
  rintro e w1 ⟨rfl, hb1⟩
  go_wp2_with fail
  refine (told_ok _ _ _ _ _ w1 r2).mono ?_
  rw [t2]
  rintro e w2 ⟨rfl, hb2⟩
  have HB2 := Lib.hid (hb1.trans (hb2.mono hb1.size))
  clear hb1 hb2
  go_wp2_with fail
  obtain ⟨k, hk⟩ : ∃ k, k = w2.heap.size := ⟨_, rfl⟩
  obtain ⟨W, hW⟩ : ∃ W, W = w2.alloc (.cells #[.string ⟨#[76, 49, 54]⟩, .string ⟨#[76, 48, 38]⟩, .string ⟨#[76, 48, 49]⟩, .string ⟨#[]⟩] 9) := ⟨_, rfl⟩
  rw [← hk, ← hW]
  have hbW : Below w2.heap.size w2 W := by rw [hW]; exact (Below.refl _ w2).alloc (Nat.le_refl _) _
  have hkW : W.heap[k]? = some (.cells #[str [76, 49, 54], str [76, 48, 38], str [76, 48, 49], str []] 9 (0, 0)) := by rw [hW, hk]; exact block_alloc_new w2 _
  have HB3 := Lib.hid (HB2.out.trans (hbW.mono HB2.out.size))
  have HKW := Lib.hid hkW
  clear hk hW hbW hkW HB2
  go_loopg [6] 5 (fun gg s6 wr => ∃ i : Nat, s6 = .int .i64 i ∧ i ≤ 4 ∧ 5 ≤ gg + i ∧ Hid (Below w.heap.size w wr) ∧ Hid (wr.heap[k]? = some (.cells #[str [76, 49, 54], str [76, 48, 38], str [76, 48, 49], str []] 9 (0, 0))))
  case atStart => exact ⟨0, rfl, by omega, by omega, HB3, HKW⟩
  case round =>
    obtain ⟨i, rfl, hi, hgk, HBr, HKr⟩ := hrel
    clear HB3 HKW
    have hq : ∀ j s, (#[str [76, 49, 54], str [76, 48, 38], str [76, 48, 49], str []] : Array Value)[j]? = some (str s) → wr.cell? ⟨k, j, none⟩ = some (str s) := fun j s h => cell_of HKr.out h
    have hnext : ∀ w', Below wr.heap.size wr w' → Hid (Below w.heap.size w w') ∧ Hid (w'.heap[k]? = some (.cells #[str [76, 49, 54], str [76, 48, 38], str [76, 48, 49], str []] 9 (0, 0))) :=
      fun w' h => ⟨Lib.hid (HBr.out.trans (h.mono HBr.out.size)), Lib.hid ((h.block k (lt_of_block HKr.out)).trans HKr.out)⟩
    have HN := Lib.hid hnext
    rcases Nat.lt_or_ge i 4 with hlt | hge
    · have hcase : ∃ s, wr.cell? ⟨k, i, none⟩ = some (str s) ∧ rd s = .bad 310 := by
        rcases (by omega : i = 0 ∨ i = 1 ∨ i = 2 ∨ i = 3) with rfl | rfl | rfl | rfl
        · exact ⟨_, hq 0 _ rfl, r3⟩
        · exact ⟨_, hq 1 _ rfl, r4⟩
        · exact ⟨_, hq 2 _ rfl, r5⟩
        · exact ⟨_, hq 3 _ rfl, r6⟩
      obtain ⟨s, hcs, hrs⟩ := hcase
      have HR := Lib.hid hrs
      have hlt' : (i : Int) < 4 := by omega
      clear hq hnext hrs
      go_wp2_with fail
      refine (told_bad s 310 wr HR.out (by decide)).mono ?_
      rintro e w3 ⟨rfl, hb3⟩
      obtain ⟨n1, n2⟩ := HN.out w3 hb3
      clear hb3 hcs
      go_wp2
      go_roundg (4 - i)
      case measure => omega
      case rel => exact ⟨i + 1, by simp, by omega, by omega, n1, n2⟩
    · obtain rfl : i = 4 := by omega
      clear hq hnext HN HKr
      obtain ⟨Fx, x1, x2, x3, x4, x5⟩ : ∃ Fx, rd [76, 48, 45, 76, 49] = .ok 4 0 Fx [] ∧ chk 4 0 Fx = 0 ∧ holdsE 4 0 Fx 1 = true ∧ holdsE 4 0 Fx 3 = false ∧ Fx.size < 1000 := ⟨_, r7, c7, h1, h2, by decide⟩
      obtain ⟨Fy, y1, y2, y3, y5⟩ : ∃ Fx, rd [33, 76, 51] = .ok 2 0 Fx [] ∧ chk 2 0 Fx = 0 ∧ holdsE 2 0 Fx 0 = true ∧ Fx.size < 1000 := ⟨_, r8, c8, h3, by decide⟩
      obtain ⟨Fz, z1, z2, z3, z5⟩ : ∃ Fx, rd [76, 51, 94, 76, 49, 38, 76, 51] = .ok 5 0 Fx [] ∧ chk 5 0 Fx = 0 ∧ lyS 5 0 Fx = [1, 3] ∧ Fx.size < 1000 := ⟨_, r9, c9, l1, by decide⟩
      have PX := Lib.hid (fun v => x1 ▸ parse_any [76, 48, 45, 76, 49] v)
      have PY := Lib.hid (fun v => y1 ▸ parse_any [33, 76, 51] v)
      have PZ := Lib.hid (fun v => z1 ▸ parse_any [76, 51, 94, 76, 49, 38, 76, 51] v)
      have X2 := Lib.hid x2
      have X3 := Lib.hid x3
      have X4 := Lib.hid x4
      have Y2 := Lib.hid y2
      have Y3 := Lib.hid y3
      have Z2 := Lib.hid z2
      have Z3 := Lib.hid z3
      clear x1 x2 x3 x4 y1 y2 y3 z1 z2 z3
      go_wp2_with fail
      refine (PX.out wr).mono ?_
      rintro e w3 ⟨⟨sv, rfl, hs⟩, hb3⟩
      obtain ⟨px, cx, rfl⟩ := hs.is.slice
      obtain ⟨fx, hb4⟩ := FormAt.new (op := 4) (la := 0) hs.is
      obtain ⟨bx, hbx⟩ : ∃ bx, bx = w3.heap.size := ⟨_, rfl⟩
      obtain ⟨V3, hV3⟩ : ∃ V, V = w3.alloc (.cells #[.int .i64 4, .int .i64 0, .slice px Fx.len cx] 26) := ⟨_, rfl⟩
      rw [← hbx, ← hV3] at fx
      rw [← hV3] at hb4
      have hb5 := HBr.out.trans (hb3.mono HBr.out.size)
      have HB3 := Lib.hid (hb5.trans (hb4.mono hb5.size))
      have FX := Lib.hid fx
      clear hs fx hb4 hb5 hb3 HBr
      go_wp2_with fail
      rw [← hV3, ← hbx]
      clear hV3 hbx
      refine (PY.out V3).mono ?_
      rintro e w4 ⟨⟨sv, rfl, hs⟩, hb3⟩
      obtain ⟨py, cy, rfl⟩ := hs.is.slice
      obtain ⟨fy, hb4⟩ := FormAt.new (op := 2) (la := 0) hs.is
      obtain ⟨yb, hyb⟩ : ∃ bx, bx = w4.heap.size := ⟨_, rfl⟩
      obtain ⟨V4, hV4⟩ : ∃ V, V = w4.alloc (.cells #[.int .i64 2, .int .i64 0, .slice py Fy.len cy] 26) := ⟨_, rfl⟩
      rw [← hyb, ← hV4] at fy
      rw [← hV4] at hb4
      have hb5 := HB3.out.trans (hb3.mono HB3.out.size)
      have HB4 := Lib.hid (hb5.trans (hb4.mono hb5.size))
      have FY := Lib.hid fy
      have FX4 := Lib.hid ((FX.out.later hb3).later hb4)
      clear hs fy hb4 hb5 hb3 HB3 FX
      go_wp2_with fail
      rw [← hV4, ← hyb]
      clear hV4 hyb
      refine (PZ.out V4).mono ?_
      rintro e w5 ⟨⟨sv, rfl, hs⟩, hb3⟩
      obtain ⟨pz, cz, rfl⟩ := hs.is.slice
      obtain ⟨fz, hb4⟩ := FormAt.new (op := 5) (la := 0) hs.is
      obtain ⟨zb, hzb⟩ : ∃ bx, bx = w5.heap.size := ⟨_, rfl⟩
      obtain ⟨V5, hV5⟩ : ∃ V, V = w5.alloc (.cells #[.int .i64 5, .int .i64 0, .slice pz Fz.len cz] 26) := ⟨_, rfl⟩
      rw [← hzb, ← hV5] at fz
      rw [← hV5] at hb4
      have hb5 := HB4.out.trans (hb3.mono HB4.out.size)
      have HB5 := Lib.hid (hb5.trans (hb4.mono hb5.size))
      have FZ := Lib.hid fz
      have FX5 := Lib.hid ((FX4.out.later hb3).later hb4)
      have FY5 := Lib.hid ((FY.out.later hb3).later hb4)
      obtain ⟨c0, c1, c2⟩ := FX5.out.c
      rw [hV5] at c0 c1 c2
      clear hs fz hb4 hb5 hb3 HB4 FX4 FY
      go_wp2_with fail
      rw [← hV5, ← hzb]
      clear hV5 hzb c0 c1 c2
      refine (Holds_any 1 (by decide) 4 0 Fx (.slice px Fx.len cx) V5 (by omega) FX5.out.2).mono ?_
      rw [X3.out, X2.out]
      rintro e w6 ⟨rfl, hb6⟩
      have HB6 := Lib.hid (HB5.out.trans (hb6.mono HB5.out.size))
      have FX6 := Lib.hid (FX5.out.later hb6)
      have FY6 := Lib.hid (FY5.out.later hb6)
      have FZ6 := Lib.hid (FZ.out.later hb6)
      obtain ⟨c0, c1, c2⟩ := FX6.out.c
      clear hb6 HB5 FX5 FY5 FZ
      go_wp2_with fail
      clear c0 c1 c2
      refine (Holds_any 3 (by decide) 4 0 Fx (.slice px Fx.len cx) w6 (by omega) FX6.out.2).mono ?_
      rw [X4.out, X2.out]
      rintro e w7 ⟨rfl, hb6⟩
      have HB7 := Lib.hid (HB6.out.trans (hb6.mono HB6.out.size))
      have FY7 := Lib.hid (FY6.out.later hb6)
      have FZ7 := Lib.hid (FZ6.out.later hb6)
      obtain ⟨c0, c1, c2⟩ := FY7.out.c
      clear hb6 HB6 FX6 FY6 FZ6
      go_wp2_with fail
      clear c0 c1 c2
      refine (Wide_any 2 0 Fy (.slice py Fy.len cy) w7 (by omega) FY7.out.2).mono ?_
      rw [Y3.out, Y2.out]
      rintro e w8 ⟨rfl, hb6⟩
      have HB8 := Lib.hid (HB7.out.trans (hb6.mono HB7.out.size))
      have FZ8 := Lib.hid (FZ7.out.later hb6)
      obtain ⟨c0, c1, c2⟩ := FZ8.out.c
      clear hb6 HB7 FY7 FZ7
      go_wp2_with fail
      clear c0 c1 c2
      refine (Layers_any 5 0 Fz (.slice pz Fz.len cz) w8 Z2.out (by omega) FZ8.out.2).mono ?_
      rw [Z3.out]
      rintro e w9 ⟨pl, cl, rfl, hcells, hb6⟩
      obtain ⟨lb, rfl, c0⟩ := hcells 0 1 rfl
      obtain ⟨lb', e1, c1⟩ := hcells 1 3 rfl
      obtain rfl : lb = lb' := by simpa using e1
      have HB9 := Lib.hid (HB8.out.trans (hb6.mono HB8.out.size))
      clear hb6 HB8 FZ8 hcells e1
      go_wp2_with (go_at_call 12; refine (num_any _ _).mono ?_; rintro e w10 ⟨rfl, rfl⟩)
      go_ret
      exact ⟨rfl, HB9.out⟩
#print axioms works_any
end Go.Proofs.YthbkdbnalkeieaaDoor
