/- What the reader reads, as a Lean function; the walk of within. -/
import Derived.Test.YthbkdbnalkeieaaDoorLevels
namespace Go.Proofs.YthbkdbnalkeieaaDoor
open Go.RowKit Go.Sort Go.Shelf

inductive Md where
  | atom
  | lev (k : Nat)
  | loop (k : Nat) (op la : Int) (of : Fms)

def prs : Nat → Md → Int → List UInt8 → PR
  | 0, _, _, _ => .bad 999
  | n + 1, .atom, o, s =>
    if firstB s = 76 then layFrom 16 s.tail
    else if firstB s = 33 then (if o < 32 then match prs n .atom (o + 1) s.tail with
      | .ok op la of r => .ok 2 0 (.cons op la of .nil) r
      | .bad e => .bad e
      else .bad 311)
    else if firstB s = 40 then (if o < 32 then match prs n (.lev 3) (o + 1) s.tail with
      | .ok op la of r => if firstB r = 41 then .ok op la of r.tail else .bad 310
      | .bad e => .bad e
      else .bad 311)
    else .bad 310
  | n + 1, .lev 0, o, s => prs n .atom o s
  | n + 1, .lev (k + 1), o, s => match prs n (.lev k) o s with
    | .ok op la of r => prs n (.loop k op la of) o r
    | .bad e => .bad e
  | n + 1, .loop k op la of, o, s => if signOf (2 - k) (firstB s) = 0 then .ok op la of s else match prs n (.lev k) o s.tail with
    | .ok op' la' of' r => prs n (.loop k (signOf (2 - k) (firstB s)) 0 (.cons op la of (.cons op' la' of' .nil))) o r
    | .bad e => .bad e

set_option maxHeartbeats 4000000 in
set_option maxRecDepth 100000 in
theorem within_any (rb g : Nat) (first cl : Array Value) (c : UInt8) (s : List UInt8) (o : Int) (w : World) (pr : PR) (h : IsR w rb (c :: s) o) (ho : o < 32) (h0 : 0 ≤ o)
    (eg : ∀ args w, (callFunc g args).run Tryd.prog w = .ok (.enter g args) w)
    (hg : ∀ W, IsR W rb s (o + 1) → Chg (fun k => k = rb) w W → Calls Tryd.prog g (first ++ cl) W fun e w' => PEnd rb (o + 1) W pr e w') :
    Calls Tryd.prog 61 #[.pointer (some ⟨rb, 0, none⟩), .func (.func g) first cl] w fun e w' => PEnd rb o w pr e w' := by
  have hlt := h.lt
  have hA : IsR (w.alloc (.cells #[.int .i64 0, .int .i64 0, .slice none 0 0] 26)) rb (c :: s) o := h.later ((Below.refl _ w).alloc (Nat.le_refl _) _)
  have HG := Lib.hid hg
  have HEG := Lib.hid eg
  have HA := Lib.hid hA
  have c1 := hA.c1
  have hCA : Chg (fun k => k = rb) w (w.alloc (.cells #[.int .i64 0, .int .i64 0, .slice none 0 0] 26)) := (Chg.refl _ w).alloc _
  have HCA := Lib.hid hCA
  clear hg eg hA h hCA
  go_enter Tryd.func61, Tryd.ntmps61
  go_wp2_with fail
  refine (must_true 311 _).mono ?_
  rintro e w1 ⟨rfl, rfl⟩
  go_wp2_with fail
  refine (skip_any rb c s o _ HA.out).mono ?_
  rintro e w1 ⟨rfl, hw1⟩
  have hR1 : IsR w1 rb s o := by rw [hw1]; exact HA.out.setS s
  have hK1 : w1.heap[w.heap.size]? = some (.cells #[.int .i64 0, .int .i64 0, .slice none 0 0] 26 (0, 0)) := by
    rw [hw1, block_setCell_other _ (by show w.heap.size ≠ rb; omega)]
    exact block_alloc_new w _
  have hC1 : Chg (fun k => k = rb) w w1 := by rw [hw1]; exact HCA.out.setCell (p := ⟨rb, 0, none⟩) (fun _ => rfl) _
  have d1 := hR1.c1
  have f1 := hR1.f (k := 1)
  have HR1 := Lib.hid hR1
  have HK1 := Lib.hid hK1
  have HC1 := Lib.hid hC1
  clear hw1 hR1 hK1 hC1 c1
  go_upto_region 4 with fail
  obtain ⟨W, hW⟩ : ∃ W, W = w1.setCell ⟨rb, 1, none⟩ (.int .i64 (o + 1)) := ⟨_, rfl⟩
  rw [← hW]
  have hRW : IsR W rb s (o + 1) := by rw [hW]; exact HR1.out.setO _
  have hKW : W.heap[w.heap.size]? = some (.cells #[.int .i64 0, .int .i64 0, .slice none 0 0] 26 (0, 0)) := by
    rw [hW, block_setCell_other _ (by show w.heap.size ≠ rb; omega)]; exact HK1.out
  have hCW : Chg (fun k => k = rb) w W := by rw [hW]; exact HC1.out.setCell (p := ⟨rb, 1, none⟩) (fun _ => rfl) _
  have HGW := Lib.hid (HG.out W hRW hCW)
  have HKW := Lib.hid hKW
  have HCW := Lib.hid hCW
  have hen := HEG.out
  clear hW hRW hKW hCW d1 f1
  go_wp2_with fail
  refine (HGW.out).mono ?_
  intro e w2 hE
  cases pr with
  | bad x =>
    obtain ⟨rfl, hC2⟩ := hE
    exact ⟨rfl, rfl, HCW.out.step hC2 (fun _ _ e => e)⟩
  | ok op la of r =>
    obtain ⟨⟨s', rfl, hs'⟩, hR2, hC2⟩ := hE
    obtain ⟨p', cap', rfl⟩ := hs'.is.slice
    have hC2' : Chg (fun k => k = rb) w w2 := HCW.out.step hC2 (fun _ _ e => e)
    have hK2 : w2.heap[w.heap.size]? = some (.cells #[.int .i64 0, .int .i64 0, .slice none 0 0] 26 (0, 0)) :=
      hC2.keep HKW.out (by show ¬ w.heap.size = rb; omega)
    have hbA : Below w2.heap.size w2 (w2.alloc (.cells #[.int .i64 op, .int .i64 la, .slice p' of.len cap'] 26)) := (Below.refl _ w2).alloc (Nat.le_refl _) _
    obtain ⟨W3, hW3⟩ : ∃ W3, W3 = w2.alloc (.cells #[.int .i64 op, .int .i64 la, .slice p' of.len cap'] 26) := ⟨_, rfl⟩
    have hR3 : IsR W3 rb r (o + 1) := by rw [hW3]; exact hR2.later hbA
    have hK3 : W3.heap[w.heap.size]? = some (.cells #[.int .i64 0, .int .i64 0, .slice none 0 0] 26 (0, 0)) := by rw [hW3]; exact (hbA.block _ (lt_of_block hK2)).trans hK2
    have hX3 : W3.heap[w2.heap.size]? = some (.cells #[.int .i64 op, .int .i64 la, .slice p' of.len cap'] 26 (0, 0)) := by rw [hW3]; exact block_alloc_new w2 _
    have hS3 : SlZ (fun k => W.heap.size ≤ k) W3 (.slice p' of.len cap') of := by rw [hW3]; exact hs'.later hbA
    have hltW : w.heap.size < W.heap.size := lt_of_block HKW.out
    have hC3 : Chg (fun k => k = rb) w W3 := by rw [hW3]; exact hC2'.alloc _
    have hl2 := hR2.lt
    have hl3 := lt_of_block hK2
    have HR3 := Lib.hid hR3
    have HK3 := Lib.hid hK3
    have HX3 := Lib.hid hX3
    have HS3 := Lib.hid hS3
    have HC3 := Lib.hid hC3
    have d1 := hR3.c1
    have f1 := hR3.f (k := 1)
    clear hs' hR2 hC2 hC2' hK2 hbA hR3 hK3 hX3 hS3 hC3
    go_upto_region 5 with fail
    rw [← hW3]
    clear hW3
    go_upto_region 6 with fail
    have eo : o + 1 - 1 = o := by omega
    try rw [eo]
    obtain ⟨V, hV⟩ : ∃ V, V = W3.setCell ⟨rb, 1, none⟩ (.int .i64 o) := ⟨_, rfl⟩
    rw [← hV]
    have hVR : IsR V rb r o := by rw [hV]; exact HR3.out.setO _
    have hVK : V.heap[w.heap.size]? = some (.cells #[.int .i64 0, .int .i64 0, .slice none 0 0] 26 (0, 0)) := by
      rw [hV, block_setCell_other _ (by show w.heap.size ≠ rb; omega)]; exact HK3.out
    have hVX : V.heap[w2.heap.size]? = some (.cells #[.int .i64 op, .int .i64 la, .slice p' of.len cap'] 26 (0, 0)) := by
      rw [hV, block_setCell_other _ (by show w2.heap.size ≠ rb; omega)]; exact HX3.out
    have hVC : Chg (fun k => k = rb) w V := by rw [hV]; exact HC3.out.setCell (p := ⟨rb, 1, none⟩) (fun _ => rfl) _
    have hVS : SlZ (fun k => W.heap.size ≤ k) V (.slice p' of.len cap') of := HS3.out.keep (S := fun k => k = rb) (by rw [hV]; exact (Chg.refl (fun k => k = rb) _).setCell (p := ⟨rb, 1, none⟩) (fun _ => rfl) _) (fun k hk e => by omega)
    obtain ⟨⟨t0, t1⟩, ⟨t2, t3⟩, ⟨t4, t5⟩, t6⟩ := store3 hVK (.int .i64 op) (.int .i64 la) (.slice p' of.len cap')
    have u0 := cell_of (o := 0) (v := .int .i64 op) t6 rfl
    have u1 := cell_of (o := 1) (v := .int .i64 la) t6 rfl
    have u2 := cell_of (o := 2) (v := .slice p' of.len cap') t6 rfl
    have x0 := cell_of (o := 0) (v := .int .i64 op) hVX rfl
    have x1 := cell_of (o := 1) (v := .int .i64 la) hVX rfl
    have x2 := cell_of (o := 2) (v := .slice p' of.len cap') hVX rfl
    have HVR := Lib.hid hVR
    have HVC := Lib.hid hVC
    have HVS := Lib.hid hVS
    clear hV hVR hVK hVC hVS hVX t6 d1 f1 eo
    go_wp2
    refine ⟨rfl, .agg #[.int .i64 op, .int .i64 la, .slice p' of.len cap'], ?_, ?_⟩
    · simp [results, Tryd.f61, go_sem, u0, u1, u2]
    · have hne : rb ≠ w.heap.size := by omega
      have hCf : Chg (fun k => k = w.heap.size) V (((V.setCell ⟨w.heap.size, 0, none⟩ (.int .i64 op)).setCell ⟨w.heap.size, 1, none⟩ (.int .i64 la)).setCell ⟨w.heap.size, 2, none⟩ (.slice p' of.len cap')) :=
        (((Chg.refl (fun k => k = w.heap.size) V).setCell (p := ⟨w.heap.size, 0, none⟩) (fun _ => rfl) _).setCell (p := ⟨w.heap.size, 1, none⟩) (fun _ => rfl) _).setCell (p := ⟨w.heap.size, 2, none⟩) (fun _ => rfl) _
      exact ⟨⟨_, rfl, (HVS.out.keep hCf (fun k hk e => by omega)).mono (fun k hk => by omega)⟩, hCf.keep HVR.out hne, HVC.out.step hCf (fun k hk e => by omega)⟩
#print axioms within_any
end Go.Proofs.YthbkdbnalkeieaaDoor
