/- Worlds later than one; cuts; small words. -/
import Derived.Test.YticconhcphocbaaGreatDoorTail
import Derived.Test.YticconhcphocbaaGreatDoorApp
import Derived.Lib.Hide
import Derived.BigQuiet
import Derived.Deep.QuietTactic
import Derived.StillTailTactics
import Derived.Deep.LoopGhost
import Derived.Deep.DeepCutAuto
import Derived.Deep.CutBlock
import Derived.Deep.RegionHeld3
import Derived.Outline
import Derived.LoopN
namespace Go.Proofs.YticconhcphocbaaGreatDoor
open Go.RowKit Go.Sort

/-- A later world. -/
structure Ext (W : World) where
  w : World
  b : Below W.heap.size W w
theorem Ext.cell {W : World} {p : Addr} {v : Value} (h : W.cell? p = some v) (x : Ext W) : x.w.cell? p = some v :=
  (x.b.cell (World.block_lt_of_cell? W _ h)).trans h
def Ext.drew (W : World) : Ext W := ⟨{ W with drawn := W.drawn + 1 }, (Below.refl _ W).drew⟩
instance (W : World) : Nonempty (Ext W) := ⟨Ext.drew W⟩
/-- A call from a later world ends in a later world. -/
theorem Ext.calls {W : World} (x : Ext W) {f : FuncId} {args : Array Value} {v : Value} (h : Calls Tryz.prog f args x.w fun e w' => e = .returned v ∧ Below x.w.heap.size x.w w') :
    Calls Tryz.prog f args x.w fun e w' => e = .returned v ∧ ∃ y : Ext W, w' = y.w :=
  h.mono fun _ w' hh => ⟨hh.1, ⟨w', x.b.trans (hh.2.mono x.b.size)⟩, rfl⟩

theorem wp_region_quiet_class {P : Program} {id : Nat} {L : List Oper} {Q : Exit → Act → World → Prop} {a : Act} {w : World} (C : World → Prop) (hm : P.follows .mixedOrders = true) (hB : Region.lexB .any L.toArray = true) (hC : C { w with drawn := w.drawn + 1 })
    (h : wpQuiet P L.toArray C (fun a' => ∀ w', C w' → Q .normal a' w') L a) : (Code.region id L.toArray true).wp P Q a w := wp_region_quiet (C := C) hm hB hC (by simpa using h)

/-- A cut around a range over a function: it leaves a mark. -/
theorem wp_cut_mark {P : Program} {s : Code} {K : Act → World → Prop} {Q' : Exit → Act → World → Prop} {tmps : Array Value} {ds : List Deferred} {w : World} (R : Nat → World → Prop)
    (rest : ∀ D w', R D w' → K { tmps := tmps, defers := { target := .collected D, args := #[] } :: ds } w')
    (first : ∀ (Q : Exit → Act → World → Prop) (T : Array Value), Hid (T = tmps) → (∀ D w', R D w' → Q .normal { tmps := T, defers := { target := .collected D, args := #[] } :: ds } w') → s.wp P Q { tmps := T, defers := ds } w) :
    s.wp P (Exit.then K Q') { tmps := tmps, defers := ds } w := by
  refine wp_mono (first (fun e a w => e = .normal ∧ ∃ D, a = { tmps := tmps, defers := { target := .collected D, args := #[] } :: ds } ∧ R D w) tmps (Lib.hid rfl) (fun D w' h => ⟨rfl, D, rfl, h⟩)) ?_
  rintro e a w' ⟨rfl, D, rfl, h⟩
  exact rest D w' h

/-- A mark among the deferred calls. -/
def marks (Ds : List Nat) : List Deferred := Ds.map fun D => { target := .collected D, args := #[] }

theorem cells_new (w : World) (c : List Value) (t : TypeId) : ∀ j u, c[j]? = some u → (w.alloc (.cells c.toArray t)).cell? ((⟨w.heap.size, 0, none⟩ : Addr).add j) = some u := by
  intro j u hj
  rw [show (⟨w.heap.size, 0, none⟩ : Addr).add j = ⟨w.heap.size, j, none⟩ by simp [Addr.add]; omega]
  exact cell_of (block_alloc_new w _) (by simpa using hj)

theorem ownsRow_below {w W : World} {B size : Nat} {e : TypeId} {v : Value} {n : Nat} {xs : List Value} (h : w.ownsRow B e size v n xs) (hb : Below w.heap.size w W) : W.ownsRow B e size v n xs := by
  refine ⟨h.1, ?_⟩
  rcases h.2 with e | ⟨k, cap, cur, rfl, hb0, hk, r⟩
  · exact .inl e
  · exact .inr ⟨k, cap, cur, rfl, hb0, (hb.block k (lt_of_block hk)).trans hk, r⟩
end Go.Proofs.YticconhcphocbaaGreatDoor
