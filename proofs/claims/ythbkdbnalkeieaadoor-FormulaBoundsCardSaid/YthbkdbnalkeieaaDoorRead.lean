/- The reader: first, skip, layer. -/
import Derived.Test.YthbkdbnalkeieaaDoorHolds2
namespace Go.Proofs.YthbkdbnalkeieaaDoor
open Go.RowKit Go.Sort Go.Shelf

/-- Block rb is a reader: what is left of the text, how many are open. -/
def IsR (w : World) (rb : Nat) (s : List UInt8) (o : Int) : Prop := w.heap[rb]? = some (.cells #[str s, .int .i64 o] 70 (0, 0))
theorem IsR.c0 {w : World} {rb : Nat} {s : List UInt8} {o : Int} (h : IsR w rb s o) : w.cell? ⟨rb, 0, none⟩ = some (str s) := cell_of h rfl
theorem IsR.c1 {w : World} {rb : Nat} {s : List UInt8} {o : Int} (h : IsR w rb s o) : w.cell? ⟨rb, 1, none⟩ = some (.int .i64 o) := cell_of h rfl
theorem IsR.f {w : World} {rb k : Nat} {s : List UInt8} {o : Int} (h : IsR w rb s o) : w.frozen? ⟨rb, k, none⟩ = false := free_of h
theorem IsR.lt {w : World} {rb : Nat} {s : List UInt8} {o : Int} (h : IsR w rb s o) : rb < w.heap.size := lt_of_block h
theorem IsR.later {w w' : World} {rb : Nat} {s : List UInt8} {o : Int} (h : IsR w rb s o) (hb : Below w.heap.size w w') : IsR w' rb s o := (hb.block rb h.lt).trans h
theorem IsR.setS {w : World} {rb : Nat} {s : List UInt8} {o : Int} (h : IsR w rb s o) (s' : List UInt8) : IsR (w.setCell ⟨rb, 0, none⟩ (str s')) rb s' o := block_setCell _ h
theorem IsR.setO {w : World} {rb : Nat} {s : List UInt8} {o : Int} (h : IsR w rb s o) (o' : Int) : IsR (w.setCell ⟨rb, 1, none⟩ (.int .i64 o')) rb s o' := block_setCell _ h

def firstB (s : List UInt8) : UInt8 := s.headD 0

theorem ext_tail (c : UInt8) (s : List UInt8) : (⟨(c :: s).toArray⟩ : ByteArray).extract 1 (s.length + 1) = ⟨s.toArray⟩ := by
  apply ByteArray.ext
  rw [ByteArray.data_extract]
  simp

set_option maxHeartbeats 1000000 in
theorem first_any (rb : Nat) (s : List UInt8) (o : Int) (w : World) (h : IsR w rb s o) :
    Calls Tryd.prog 48 #[.pointer (some ⟨rb, 0, none⟩)] w fun e w' => e = .returned (.int .u8 (firstB s).toNat) ∧ w = w' := by
  have c0 := h.c0
  cases s with
  | nil =>
    go_enter Tryd.func48, Tryd.ntmps48
    go_wp2
    go_ret
    exact ⟨rfl, rfl⟩
  | cons c r =>
    go_enter Tryd.func48, Tryd.ntmps48
    go_wp2
    go_ret
    exact ⟨rfl, rfl⟩

set_option maxHeartbeats 1000000 in
theorem skip_any (rb : Nat) (c : UInt8) (s : List UInt8) (o : Int) (w : World) (h : IsR w rb (c :: s) o) :
    Calls Tryd.prog 49 #[.pointer (some ⟨rb, 0, none⟩)] w fun e w' => e = .returned (.tuple #[]) ∧ w' = w.setCell ⟨rb, 0, none⟩ (str s) := by
  have c0 := h.c0
  have f0 := h.f (k := 0)
  go_enter Tryd.func49, Tryd.ntmps49
  go_wp2
  go_end0
  rw [ext_tail]
  exact ⟨rfl, rfl⟩

/-- A row all of whose blocks, and of what is in it, lie in Z. -/
def RowZ (Z : Nat → Prop) (w : World) : Fms → Nat → Nat → Prop
  | .nil, _, _ => True
  | .cons op la of r, b, off => Z b ∧ (∃ s, w.cell? ⟨b, off, none⟩ = some (In op) ∧ w.cell? ⟨b, off + 1, none⟩ = some (In la) ∧ w.cell? ⟨b, off + 2, none⟩ = some s ∧
      ((of = .nil ∧ ∃ p cap, s = .slice p 0 cap) ∨ ∃ b' off' cap, s = .slice (some ⟨b', off', none⟩) of.len cap ∧ RowZ Z w of b' off')) ∧ RowZ Z w r b (off + 3)
def SlZ (Z : Nat → Prop) (w : World) (s : Value) (F : Fms) : Prop :=
  (F = .nil ∧ ∃ p cap, s = .slice p 0 cap) ∨ ∃ b off cap, s = .slice (some ⟨b, off, none⟩) F.len cap ∧ RowZ Z w F b off
theorem RowZ.is {Z : Nat → Prop} {w : World} : ∀ {F : Fms} {b off : Nat}, RowZ Z w F b off → RowIs w F b off
  | .nil, _, _, _ => trivial
  | .cons _ _ _ _, _, _, ⟨_, ⟨s, h1, h2, h3, h4⟩, h5⟩ => ⟨⟨s, h1, h2, h3, h4.imp id (fun ⟨b', off', cap, e, h⟩ => ⟨b', off', cap, e, RowZ.is h⟩)⟩, RowZ.is h5⟩
theorem SlZ.is {Z : Nat → Prop} {w : World} {s : Value} {F : Fms} (h : SlZ Z w s F) : SlIs w s F := h.imp id (fun ⟨b', off', cap, e, h⟩ => ⟨b', off', cap, e, h.is⟩)
theorem RowZ.mono {Z Z' : Nat → Prop} {w : World} (hz : ∀ k, Z k → Z' k) : ∀ {F : Fms} {b off : Nat}, RowZ Z w F b off → RowZ Z' w F b off
  | .nil, _, _, _ => trivial
  | .cons _ _ _ _, _, _, ⟨hb, ⟨s, h1, h2, h3, h4⟩, h5⟩ => ⟨hz _ hb, ⟨s, h1, h2, h3, h4.imp id (fun ⟨b', off', cap, e, h⟩ => ⟨b', off', cap, e, RowZ.mono hz h⟩)⟩, RowZ.mono hz h5⟩
theorem SlZ.mono {Z Z' : Nat → Prop} {w : World} {s : Value} {F : Fms} (h : SlZ Z w s F) (hz : ∀ k, Z k → Z' k) : SlZ Z' w s F := h.imp id (fun ⟨b', off', cap, e, h⟩ => ⟨b', off', cap, e, h.mono hz⟩)
theorem RowZ.keep {Z S : Nat → Prop} {w w' : World} (hC : Chg S w w') (hS : ∀ k, Z k → ¬ S k) : ∀ {F : Fms} {b off : Nat}, RowZ Z w F b off → RowZ Z w' F b off
  | .nil, _, _, _ => trivial
  | .cons _ _ _ _, b, off, ⟨hb, ⟨s, h1, h2, h3, h4⟩, h5⟩ => by
    have k : ∀ {j : Nat} {v : Value}, w.cell? ⟨b, j, none⟩ = some v → w'.cell? ⟨b, j, none⟩ = some v := fun {j v} h =>
      (World.cell?_of_block (hC.block b (World.block_lt_of_cell? w _ h) (hS b hb))).trans h
    exact ⟨hb, ⟨s, k h1, k h2, k h3, h4.imp id (fun ⟨b', off', cap, e, h⟩ => ⟨b', off', cap, e, RowZ.keep hC hS h⟩)⟩, RowZ.keep hC hS h5⟩
theorem SlZ.keep {Z S : Nat → Prop} {w w' : World} {s : Value} {F : Fms} (h : SlZ Z w s F) (hC : Chg S w w') (hS : ∀ k, Z k → ¬ S k) : SlZ Z w' s F := h.imp id (fun ⟨b', off', cap, e, h⟩ => ⟨b', off', cap, e, h.keep hC hS⟩)
theorem SlZ.later {Z : Nat → Prop} {w w' : World} {s : Value} {F : Fms} (h : SlZ Z w s F) (hb : Below w.heap.size w w') : SlZ Z w' s F := h.keep (Chg.of_below (S := fun _ => False) hb) (fun _ _ h => h)

/-- What the reader's functions answer. -/
inductive PR where
  | ok (op la : Int) (of : Fms) (r : List UInt8)
  | bad (e : Int)
def PEnd (rb : Nat) (o : Int) (w : World) : PR → Ending → World → Prop
  | .ok op la of r, e, w' => (∃ s, e = .returned (.agg #[.int .i64 op, .int .i64 la, s]) ∧ SlZ (fun k => w.heap.size ≤ k) w' s of) ∧ IsR w' rb r o ∧ Chg (fun k => k = rb) w w'
  | .bad x, e, w' => e = gaveUp x ∧ Chg (fun k => k = rb) w w'

/-- Three stores into a block of three cells: what the walk asks on its way. -/
theorem store3 {V : World} {k : Nat} {a b c : Value} {t : TypeId} (h : V.heap[k]? = some (.cells #[a, b, c] t (0, 0))) (x y z : Value) :
    (V.cell? ⟨k, 0, none⟩ = some a ∧ V.frozen? ⟨k, 0, none⟩ = false) ∧
    ((V.setCell ⟨k, 0, none⟩ x).cell? ⟨k, 1, none⟩ = some b ∧ (V.setCell ⟨k, 0, none⟩ x).frozen? ⟨k, 1, none⟩ = false) ∧
    (((V.setCell ⟨k, 0, none⟩ x).setCell ⟨k, 1, none⟩ y).cell? ⟨k, 2, none⟩ = some c ∧ ((V.setCell ⟨k, 0, none⟩ x).setCell ⟨k, 1, none⟩ y).frozen? ⟨k, 2, none⟩ = false) ∧
    (((V.setCell ⟨k, 0, none⟩ x).setCell ⟨k, 1, none⟩ y).setCell ⟨k, 2, none⟩ z).heap[k]? = some (.cells #[x, y, z] t (0, 0)) := by
  have h1 := block_setCell (o := 0) x h
  have h2 := block_setCell (o := 1) y h1
  have h3 := block_setCell (o := 2) z h2
  exact ⟨⟨cell_of h rfl, free_of h⟩, ⟨cell_of h1 rfl, free_of h1⟩, ⟨cell_of h2 rfl, free_of h2⟩, h3⟩

def layFrom : Nat → List UInt8 → PR
  | 0, _ => .bad 310
  | n + 1, s => if Lib.hasPrefix s (Lib.decDigits n) then .ok 1 n .nil (Lib.trimPrefix s (Lib.decDigits n)) else layFrom n s

set_option maxHeartbeats 4000000 in
set_option maxRecDepth 100000 in
theorem layer_any (rb : Nat) (c : UInt8) (s : List UInt8) (o : Int) (w : World) (h : IsR w rb (c :: s) o) :
    Calls Tryd.prog 60 #[.pointer (some ⟨rb, 0, none⟩)] w fun e w' => PEnd rb o w (layFrom 16 s) e w' := by
  have hIta := fun (w' : World) (i : Nat) (hi : i < 100) => Tryd.strconv_Itoa_small i hi w'
  have hCut : ∀ (w' : World) (n : Nat), Calls Tryd.prog 72 #[str s, str (Lib.decDigits n)] w' fun e w'' => e = .returned (.tuple #[str (Lib.trimPrefix s (Lib.decDigits n)), .bool (Lib.hasPrefix s (Lib.decDigits n))]) ∧ w'' = w' :=
    fun w' n => Tryd.strings_CutPrefix ⟨s.toArray⟩ ⟨(Lib.decDigits n).toArray⟩ w'
  have HI := Lib.hid hIta
  have HC := Lib.hid hCut
  have hA : IsR (w.alloc (.cells #[.int .i64 0, .int .i64 0, .slice none 0 0] 26)) rb (c :: s) o := h.later ((Below.refl _ w).alloc (Nat.le_refl _) _)
  have HA := Lib.hid hA
  have hlt := h.lt
  clear hIta hCut h hA
  go_enter Tryd.func60, Tryd.ntmps60
  go_wp2_with fail
  refine (skip_any rb c s o _ HA.out).mono ?_
  rintro e w1 ⟨rfl, hw1⟩
  have hR1 : IsR w1 rb s o := by rw [hw1]; exact HA.out.setS s
  have hbk : w1.heap[w.heap.size]? = some (.cells #[.int .i64 0, .int .i64 0, .slice none 0 0] 26 (0, 0)) := by
    rw [hw1, block_setCell_other _ (by show w.heap.size ≠ rb; omega)]
    exact block_alloc_new w _
  have hC1 : Chg (fun k => k = rb) w w1 := by
    rw [hw1]
    exact ((Chg.refl (fun k => k = rb) w).alloc _).setCell (p := ⟨rb, 0, none⟩) (fun _ => rfl) _
  have HR1 := Lib.hid hR1
  have HC1 := Lib.hid hC1
  have HK := Lib.hid hbk
  clear hw1 hR1 hbk hC1 HA
  go_wp2_with fail
  go_loopg [3] 17 (fun gg s3 wr => ∃ (n q : Nat), s3 = .int .i64 ((n : Int) - 1) ∧ n ≤ 16 ∧ n + 1 ≤ gg ∧ wr = w1.drewN q ∧ Hid (layFrom 16 s = layFrom n s))
  case atStart => exact ⟨16, 0, rfl, Nat.le_refl _, Nat.le_refl _, rfl, Lib.hid rfl⟩
  case round =>
    obtain ⟨n, q, rfl, hn, hgk, rfl, HL⟩ := hrel
    obtain ⟨W, hW⟩ : ∃ W, W = w1.drewN q := ⟨_, rfl⟩
    have HRW : IsR W rb s o := by rw [hW]; exact HR1.out
    have HKW : W.heap[w.heap.size]? = some (.cells #[.int .i64 0, .int .i64 0, .slice none 0 0] 26 (0, 0)) := by rw [hW]; exact HK.out
    have HCW := Lib.hid (show Chg (fun k => k = rb) w W by rw [hW]; exact HC1.out.drewN q)
    have HR := Lib.hid HRW
    have HKk := Lib.hid HKW
    have c0 := HRW.c0
    have f0 := HRW.f (k := 0)
    clear HRW HKW
    cases n with
    | zero =>
      rw [← hW]
      clear hW
      go_wp2_with fail
      refine ⟨rfl, ?_⟩
      have e1 := HL.out
      rw [e1]
      exact ⟨rfl, HCW.out⟩
    | succ n =>
      have e1 : ((n + 1 : Nat) : Int) - 1 = n := by omega
      rw [e1]
      have hq : ∀ q', ∃ q'', W.drewN q' = w1.drewN q'' := fun q' => ⟨q + q', by rw [hW, World.drewN_drewN]⟩
      rw [← hW]
      have HQ := Lib.hid hq
      clear hW hq e1
      have hL := HL.out
      have hstep : layFrom (n + 1) s = if Lib.hasPrefix s (Lib.decDigits n) then .ok 1 n .nil (Lib.trimPrefix s (Lib.decDigits n)) else layFrom n s := rfl
      rw [hstep] at hL
      have HL2 := Lib.hid hL
      clear hL hstep
      cases hp : Lib.hasPrefix s (Lib.decDigits n) with
      | true =>
        have hCn := fun w' => HC.out w' n
        rw [hp] at hCn
        have HCn := Lib.hid hCn
        have hL2 := HL2.out
        rw [hp, if_pos rfl] at hL2
        have HL3 := Lib.hid hL2
        clear hCn hL2
        go_wp2_with fail
        go_quiet (first | (go_at_call 57; exact (HI.out _ n (by omega)).mono (fun _ _ h => ⟨h.1, _, h.2⟩)) | (go_at_call 72; exact (HCn.out _).mono (fun _ _ h => ⟨h.1, _, h.2⟩)))
        go_upto_region 8 with fail
        obtain ⟨V, hV⟩ : ∃ V, V = (W.drewN nq).setCell ⟨rb, 0, none⟩ (str (Lib.trimPrefix s (Lib.decDigits n))) := ⟨_, rfl⟩
        rw [← hV]
        have hVR : IsR V rb (Lib.trimPrefix s (Lib.decDigits n)) o := by rw [hV]; exact IsR.setS (w := W.drewN nq) HR.out _
        have hVK : V.heap[w.heap.size]? = some (.cells #[.int .i64 0, .int .i64 0, .slice none 0 0] 26 (0, 0)) := by
          rw [hV, block_setCell_other _ (by show w.heap.size ≠ rb; omega)]
          exact HKk.out
        have hVC : Chg (fun k => k = rb) w V := by rw [hV]; exact (HCW.out.drewN nq).setCell (p := ⟨rb, 0, none⟩) (fun _ => rfl) _
        obtain ⟨⟨t0, t1⟩, ⟨t2, t3⟩, ⟨t4, t5⟩, t6⟩ := store3 hVK (.int .i64 1) (.int .i64 n) (.slice none 0 0)
        have u0 := cell_of (o := 0) (v := .int .i64 1) t6 rfl
        have u1 := cell_of (o := 1) (v := .int .i64 n) t6 rfl
        have u2 := cell_of (o := 2) (v := .slice none 0 0) t6 rfl
        have HVR := Lib.hid hVR
        have HVC := Lib.hid hVC
        clear hV hVR hVK hVC t6 c0 f0
        go_wp2
        refine ⟨rfl, .agg #[.int .i64 1, .int .i64 n, .slice none 0 0], ?_, ?_⟩
        · simp [results, Tryd.f60, go_sem, u0, u1, u2]
        · have e1 := HL3.out
          rw [e1]
          refine ⟨⟨.slice none 0 0, rfl, .inl ⟨rfl, none, 0, rfl⟩⟩, ?_, ?_⟩
          · have hne : rb ≠ w.heap.size := by omega
            exact ((block_setCell_other (p := ⟨w.heap.size, 2, none⟩) _ hne).trans ((block_setCell_other (p := ⟨w.heap.size, 1, none⟩) _ hne).trans (block_setCell_other (p := ⟨w.heap.size, 0, none⟩) _ hne))).trans HVR.out
          · exact ((HVC.out.setCell (p := ⟨w.heap.size, 0, none⟩) (fun h => absurd h (Nat.lt_irrefl _)) _).setCell (p := ⟨w.heap.size, 1, none⟩) (fun h => absurd h (Nat.lt_irrefl _)) _).setCell (p := ⟨w.heap.size, 2, none⟩) (fun h => absurd h (Nat.lt_irrefl _)) _
      | false =>
        have hCn := fun w' => HC.out w' n
        rw [hp] at hCn
        have HCn := Lib.hid hCn
        have hL2 := HL2.out
        rw [hp, if_neg (by decide)] at hL2
        have HL3 := Lib.hid hL2
        clear hCn hL2
        go_wp2_with fail
        go_quiet (first | (go_at_call 57; exact (HI.out _ n (by omega)).mono (fun _ _ h => ⟨h.1, _, h.2⟩)) | (go_at_call 72; exact (HCn.out _).mono (fun _ _ h => ⟨h.1, _, h.2⟩)))
        go_wp2
        go_roundg (n + 1)
        case measure => omega
        case rel =>
          obtain ⟨q'', hq''⟩ := HQ.out nq
          exact ⟨n, q'', rfl, by omega, Nat.le_refl _, hq'', HL3⟩
end Go.Proofs.YthbkdbnalkeieaaDoor
