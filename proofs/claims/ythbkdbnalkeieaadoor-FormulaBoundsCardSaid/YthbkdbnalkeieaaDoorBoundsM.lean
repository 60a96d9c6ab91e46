/- The lists of formulas of FormulaBounds, in memory. -/
import Derived.Test.YthbkdbnalkeieaaDoorBoundsP
import Derived.Test.YthbkdbnalkeieaaDoorRText
import Derived.Test.YthbkdbnalkeieaaDoorRWalk
import Derived.Test.YthbkdbnalkeieaaDoorRCheck
import Derived.Test.YthbkdbnalkeieaaDoorOwn
import Derived.Deep.DeepCutAuto
import Derived.Deep.CutBlock
import Derived.Outline
namespace Go.Proofs.YthbkdbnalkeieaaDoor
open Go.RowKit Go.Sort Go.Shelf

theorem count_snoc {α : Type} [BEq α] (l : List α) (i : Nat) (x y : α) (h : l[i]? = some y) : (l.take (i + 1)).count x = (l.take i).count x + if y == x then 1 else 0 := by
  rw [List.take_add_one, h]
  simp [List.count_append, List.count_singleton]
theorem preB_snoc (l : List Bool) (i : Nat) (x : Bool) (h : l[i]? = some x) : preB (l.take (i + 1)) = preB (l.take i) ++ [if x then 33 else 40] := by
  rw [List.take_add_one, h]
  simp only [preB, List.map_append, Option.toList, List.map_cons, List.map_nil]

def signsAt (w : World) (p : Option Addr) (bs : List Bool) : Prop := ∀ i x, bs[i]? = some x → ∃ b off, p = some ⟨b, off, none⟩ ∧ w.cell? ⟨b, off + i, none⟩ = some (.bool x)

theorem parsed_bounds {bs : List Bool} {w w1 : World} {e : Ending} (R1 : bs.length ≤ 32 ∧ bs.count true + 1 ≤ 32 → ∃ op la of, rd (preB bs ++ (76 :: 48 :: behB bs)) = .ok op la of []) (R2 : ¬ (bs.length ≤ 32 ∧ bs.count true + 1 ≤ 32) → rd (preB bs ++ (76 :: 48 :: behB bs)) = .bad 311)
    (h : RdEnd w (rd (preB bs ++ (76 :: 48 :: behB bs))) e w1) : ∃ (op la x : Int) (p : Option Addr) (n c : Nat), e = .returned (.tuple #[.agg #[.int .i64 op, .int .i64 la, .slice p n c], .int .i64 x]) ∧ Below w.heap.size w w1 ∧ x = if bs.length ≤ 32 ∧ bs.count true + 1 ≤ 32 then 0 else 311 := by
  by_cases hc : bs.length ≤ 32 ∧ bs.count true + 1 ≤ 32
  · obtain ⟨op, la, of, hr⟩ := R1 hc
    rw [hr] at h
    obtain ⟨⟨s, rfl, hs⟩, hb⟩ := h
    obtain ⟨p, c, rfl⟩ := hs.is.slice
    exact ⟨op, la, 0, p, _, c, rfl, hb, by rw [if_pos hc]⟩
  · rw [R2 hc] at h
    obtain ⟨rfl, hb⟩ := h
    exact ⟨0, 0, 311, none, 0, 0, rfl, hb, by rw [if_neg hc]⟩
/-- A row of formulas, by its cells. -/
def RowAt (Z : Nat → Prop) (W : World) (F : Fms) (xs : List Value) : Prop :=
  xs.length = F.len * 3 ∧ ∀ k op la of, F.get k = some (op, la, of) → ∃ s, xs[k * 3]? = some (In op) ∧ xs[k * 3 + 1]? = some (In la) ∧ xs[k * 3 + 2]? = some s ∧ SlZ Z W s of
theorem RowAt.keep {Z Z' S : Nat → Prop} {W V : World} {F : Fms} {xs : List Value} (h : RowAt Z W F xs) (hC : Chg S W V) (hS : ∀ k, Z k → ¬ S k) (hz : ∀ k, Z k → Z' k) : RowAt Z' V F xs :=
  ⟨h.1, fun k op la of hk => by obtain ⟨s, h1, h2, h3, h4⟩ := h.2 k op la of hk; exact ⟨s, h1, h2, h3, (h4.keep hC hS).mono hz⟩⟩
theorem get_app_one (op la : Int) (of : Fms) : ∀ (F : Fms) (k : Nat), (F.app (.cons op la of .nil)).get k = if k < F.len then F.get k else if k = F.len then some (op, la, of) else none
  | .nil, 0 => rfl
  | .nil, k + 1 => by simp [Fms.app, Fms.get, Fms.len]
  | .cons _ _ _ r, 0 => by simp [Fms.app, Fms.get, Fms.len]
  | .cons o l f r, k + 1 => by
    have hl : (Fms.cons o l f r).len = r.len + 1 := rfl
    show (r.app (.cons op la of .nil)).get k = if k + 1 < (Fms.cons o l f r).len then r.get k else if k + 1 = (Fms.cons o l f r).len then some (op, la, of) else none
    rw [get_app_one op la of r k, hl]
    by_cases h1 : k < r.len
    · rw [if_pos h1, if_pos (by omega)]
    · rw [if_neg h1, if_neg (show ¬ k + 1 < r.len + 1 by omega)]
      by_cases h2 : k = r.len
      · rw [if_pos h2, if_pos (show k + 1 = r.len + 1 by omega)]
      · rw [if_neg h2, if_neg (show ¬ k + 1 = r.len + 1 by omega)]
theorem cells_new (w : World) (c : List Value) (t : TypeId) : ∀ j u, c[j]? = some u → (w.alloc (.cells c.toArray t)).cell? ((⟨w.heap.size, 0, none⟩ : Addr).add j) = some u := by
  intro j u hj
  rw [show (⟨w.heap.size, 0, none⟩ : Addr).add j = ⟨w.heap.size, j, none⟩ by simp [Addr.add]; omega]
  exact cell_of (block_alloc_new w _) (by simpa using hj)
theorem ownsRow_slice {w : World} {B : Nat} {v : Value} {n : Nat} {xs : List Value} (h : w.ownsRow B 26 3 v n xs) : ∃ q c, v = .slice q n c := by
  rcases h.2 with ⟨rfl, rfl⟩ | ⟨g, cap, cur, rfl, _⟩
  · exact ⟨none, 0, rfl⟩
  · exact ⟨_, cap, rfl⟩

theorem RowAt.snoc {Z : Nat → Prop} {W : World} {F : Fms} {xs : List Value} (h : RowAt Z W F xs) {op la : Int} {of : Fms} {s : Value} (hs : SlZ Z W s of) : RowAt Z W (F.app (.cons op la of .nil)) (xs ++ [In op, In la, s]) := by
  refine ⟨by simp [h.1, Fms.app_len, Fms.len]; omega, fun k o l f hk => ?_⟩
  rw [get_app_one] at hk
  have hl := h.1
  by_cases h1 : k < F.len
  · rw [if_pos h1] at hk
    obtain ⟨s', a, b, c, d⟩ := h.2 k o l f hk
    exact ⟨s', by rw [List.getElem?_append_left (by omega)]; exact a, by rw [List.getElem?_append_left (by omega)]; exact b, by rw [List.getElem?_append_left (by omega)]; exact c, d⟩
  · rw [if_neg h1] at hk
    by_cases h2 : k = F.len
    · rw [if_pos h2] at hk
      cases hk
      refine ⟨s, ?_, ?_, ?_, hs⟩
      · rw [List.getElem?_append_right (by omega), show k * 3 - xs.length = 0 by omega]; rfl
      · rw [List.getElem?_append_right (by omega), show k * 3 + 1 - xs.length = 1 by omega]; rfl
      · rw [List.getElem?_append_right (by omega), show k * 3 + 2 - xs.length = 2 by omega]; rfl
    · rw [if_neg h2] at hk; cases hk

theorem Tryd.zero26' : (Value.agg #[.int .i64 0, .int .i64 0, .slice none 0 0]).cells = #[.int .i64 0, .int .i64 0, .slice none 0 0] := by kernel_rfl
def LeafRow (i m : Nat) (xs : List Value) : Prop :=
  xs.length = m * 3 ∧ ∀ j, j < m → xs[j * 3 + 2]? = some (.slice none 0 0) ∧ (j < i → xs[j * 3]? = some (In 1) ∧ xs[j * 3 + 1]? = some (In ((j % 16 : Nat) : Int)))
theorem LeafRow.start (m : Nat) : LeafRow 0 m (madeCells (Value.agg #[.int .i64 0, .int .i64 0, .slice none 0 0]).cells (m * 3)).toList := by
  rw [Tryd.zero26']
  refine ⟨by simp [size_madeCells], fun j hj => ⟨?_, fun h => absurd h (by omega)⟩⟩
  have : j * 3 + 2 < m * 3 := by omega
  have h3 : (j * 3 + 2) % 3 = 2 := by omega
  simp [madeCells, this, h3]
theorem LeafRow.step {i m : Nat} {xs : List Value} (h : LeafRow i m xs) (hi : i < m) : LeafRow (i + 1) m (((xs.set (i * 3) (In 1)).set (i * 3 + 1) (In ((i % 16 : Nat) : Int))).set (i * 3 + 2) (.slice none 0 0)) := by
  refine ⟨by simp [h.1], fun j hj => ?_⟩
  obtain ⟨h2, h3⟩ := h.2 j hj
  have hl := h.1
  by_cases hji : j = i
  · subst hji
    refine ⟨?_, fun _ => ⟨?_, ?_⟩⟩
    · rw [List.getElem?_set]; simp; omega
    · rw [List.getElem?_set_ne (by omega), List.getElem?_set_ne (by omega), List.getElem?_set]; simp; omega
    · rw [List.getElem?_set_ne (by omega), List.getElem?_set]; simp; omega
  · refine ⟨?_, fun hlt => ?_⟩
    · rw [List.getElem?_set_ne (by omega), List.getElem?_set_ne (by omega), List.getElem?_set_ne (by omega)]; exact h2
    · have := h3 (by omega)
      rw [List.getElem?_set_ne (by omega), List.getElem?_set_ne (by omega), List.getElem?_set_ne (by omega)]
      rw [List.getElem?_set_ne (by omega), List.getElem?_set_ne (by omega), List.getElem?_set_ne (by omega)]
      exact this
theorem LeafRow.rowAt {m : Nat} {xs : List Value} (W : World) (h : LeafRow m m xs) : RowAt (fun _ => False) W (leaves 0 m) xs := by
  refine ⟨by rw [leaves_len]; exact h.1, fun k op la of hk => ?_⟩
  have hkm : k < m := by
    have := get_lt hk
    rwa [leaves_len] at this
  rw [leaves_get 0 m k hkm] at hk
  cases hk
  obtain ⟨h2, h3⟩ := h.2 k hkm
  obtain ⟨h3, h4⟩ := h3 hkm
  exact ⟨_, h3, by rw [Nat.zero_add]; exact h4, h2, .inl ⟨rfl, none, 0, rfl⟩⟩

/-- The list l, between two rounds. -/
structure BRel (w : World) (m k : Nat) (wr : World) (F : Fms) (g c : Nat) (xs : List Value) (Z : Nat → Prop) : Prop where
  k9 : k ≤ 9
  n1 : 1 ≤ F.len
  n2 : F.len ≤ 2 ^ (9 - k)
  ok : okD ((k : Int) + 1) F
  sz : F.size + F.len = 2 * m
  own : wr.ownsRow w.heap.size 26 3 (.slice (some ⟨g, 0, none⟩) F.len c) F.len xs
  row : RowAt Z wr F xs
  nz : ¬ Z g
  lt : ∀ k, Z k → k < wr.heap.size
  b : Below w.heap.size w wr
/-- The list next, in a round. -/
structure CRel (w : World) (wr : World) (F : Fms) (g c : Nat) (xs : List Value) (i : Nat) (G : Fms) (v2 : Value) (ys : List Value) (Z : Nat → Prop) : Prop where
  hi : i = 2 * G.len
  hn : i ≤ F.len
  eq : G.app (pairUp (F.drop i)) = pairUp F
  own : wr.ownsRow w.heap.size 26 3 (.slice (some ⟨g, 0, none⟩) F.len c) F.len xs
  row : RowAt Z wr F xs
  own2 : wr.ownsRow w.heap.size 26 3 v2 G.len ys
  row2 : RowAt Z wr G ys
  nz : ¬ Z g
  nz2 : ∀ b, v2.ownBlock = some b → ¬ Z b ∧ b ≠ g
  lt : ∀ k, Z k → k < wr.heap.size
  b : Below w.heap.size w wr
theorem BRel.start {w : World} {m : Nat} {wr : World} {g : Nat} {xs : List Value} (hm : 250 ≤ m) (hm2 : m ≤ 265) (ho : wr.ownsRow w.heap.size 26 3 (.slice (some ⟨g, 0, none⟩) m m) m xs) (hl : LeafRow m m xs) (hb : Below w.heap.size w wr) :
    BRel w m 0 wr (leaves 0 m) g m xs (fun _ => False) :=
  ⟨by omega, by rw [leaves_len]; omega, by rw [leaves_len]; simp; omega, (leaves_ok 0 m).mono (by omega), by rw [leaves_len, leaves_size]; omega, by rw [leaves_len]; exact ho, hl.rowAt wr, fun h => h, fun k h => h.elim, hb⟩
theorem CRel.start {w : World} {m k : Nat} {wr : World} {F : Fms} {g c : Nat} {xs : List Value} {Z : Nat → Prop} (h : BRel w m k wr F g c xs Z) : CRel w wr F g c xs 0 .nil (.slice none 0 0) [] Z :=
  ⟨rfl, Nat.zero_le _, by cases F <;> rfl, h.own, h.row, World.ownsRow_nil _ _ _ _, ⟨rfl, fun k op la of hk => by simp [Fms.get] at hk⟩, h.nz, fun b hb => by simp [Value.ownBlock] at hb, h.lt, h.b⟩
theorem BRel.done {w : World} {m k : Nat} {wo wr : World} {F : Fms} {g c : Nat} {xs : List Value} {Z0 Z : Nat → Prop} {G : Fms} {v2 : Value} {ys : List Value} (h : BRel w m k wo F g c xs Z0) (h1 : 1 < F.len) (hG : G = pairUp F)
    (own : wr.ownsRow w.heap.size 26 3 v2 G.len ys) (row : RowAt Z wr G ys) (nz : ∀ b, v2.ownBlock = some b → ¬ Z b) (lt : ∀ k, Z k → k < wr.heap.size) (b : Below w.heap.size w wr) :
    ∃ g' c', v2 = .slice (some ⟨g', 0, none⟩) (pairUp F).len c' ∧ BRel w m (k + 1) wr (pairUp F) g' c' ys Z := by
  subst hG
  have hl := pairUp_len F
  obtain ⟨j, hj⟩ : ∃ j, (pairUp F).len = j + 1 := ⟨(pairUp F).len - 1, by omega⟩
  have own' := own
  rw [hj] at own'
  obtain ⟨g', c', rfl⟩ := ownsRow_succ own'
  rw [← hj] at own
  have hk : k ≤ 8 := by
    have := h.n2
    have h9 := h.k9
    rcases Nat.lt_or_ge 8 k with hh | hh
    · obtain rfl : k = 9 := by omega
      simp at this
      omega
    · exact hh
  refine ⟨g', c', by rw [hj], by omega, by omega, ?_, ?_, by have := pairUp_size F; have := h.sz; omega, by rw [hj] at own ⊢; exact own, row, nz g' rfl, lt, b⟩
  · have h2 := h.n2
    have e : 2 ^ (9 - k) = 2 * 2 ^ (9 - (k + 1)) := by
      rw [show 9 - k = (9 - (k + 1)) + 1 by omega, Nat.pow_succ, Nat.mul_comm]
    omega
  · have := h.ok.pair
    push_cast
    exact this

theorem ownsRow_lo {w : World} {B : Nat} {v : Value} {n b : Nat} {xs : List Value} (h : w.ownsRow B 26 3 v n xs) (hb : v.ownBlock = some b) : B ≤ b ∧ b < w.heap.size := by
  rcases h.2 with ⟨rfl, rfl⟩ | ⟨g, cap, cur, rfl, hg, hk, _⟩
  · simp [Value.ownBlock] at hb
  · obtain rfl : g = b := by simpa [Value.ownBlock] using hb
    exact ⟨hg, lt_of_block hk⟩

theorem CRel.step {w wr W1 X w2 : World} {F : Fms} {g c : Nat} {xs : List Value} {i : Nat} {G : Fms} {v2 v' : Value} {ys : List Value} {Z : Nat → Prop} (h : CRel w wr F g c xs i G v2 ys Z) {o1 l1 o2 l2 : Int} {f1 f2 : Fms} {q1 q2 : Option Addr} {c1 c2 : Nat}
    (hd : F.drop i = .cons o1 l1 f1 (.cons o2 l2 f2 (F.drop (i + 2)))) (hi2 : i + 2 ≤ F.len) (hs1 : SlZ Z wr (.slice q1 f1.len c1) f1) (hs2 : SlZ Z wr (.slice q2 f2.len c2) f2) (hb : Below wr.heap.size wr W1)
    (hX : X = (W1.alloc (.cells #[In o1, In l1, .slice q1 f1.len c1, In o2, In l2, .slice q2 f2.len c2] 26)).alloc (.cells #[In 5, In 0, .slice (some ⟨W1.heap.size, 0, none⟩) 2 2] 26))
    (ho : w2.ownsRow 0 26 3 v' (G.len + 1) (ys ++ [In 5, In 0, .slice (some ⟨W1.heap.size, 0, none⟩) 2 2])) (hg : X.grownBy w2 v2.ownBlock) (hn : v'.ownBlock = v2.ownBlock ∨ ∀ b, v'.ownBlock = some b → X.heap.size ≤ b) :
    CRel w w2 F g c xs (i + 2) (G.app (.cons 5 0 (.cons o1 l1 f1 (.cons o2 l2 f2 .nil)) .nil)) v' (ys ++ [In 5, In 0, .slice (some ⟨W1.heap.size, 0, none⟩) 2 2]) (fun k => Z k ∨ k = W1.heap.size) := by
  have hs0 := hb.size
  have hbX : Below wr.heap.size wr X := by rw [hX]; exact (hb.alloc hs0 _).alloc (by simp; omega) _
  have hXs : X.heap.size = W1.heap.size + 2 := by rw [hX]; simp
  have hC : Chg (fun b => v2.ownBlock = some b) wr w2 := (Chg.of_below hbX).grown hg (fun k e _ => e)
  have hlt2 : ∀ b, v2.ownBlock = some b → w.heap.size ≤ b ∧ b < wr.heap.size := fun b hb => ownsRow_lo h.own2 hb
  have hgl := ownsRow_lo h.own (b := g) rfl
  have hw := h.b.size
  have kz : ∀ k, Z k → ¬ v2.ownBlock = some k := fun k hk e => (h.nz2 k e).1 hk
  have blkX : X.heap[W1.heap.size]? = some (.cells #[In o1, In l1, .slice q1 f1.len c1, In o2, In l2, .slice q2 f2.len c2] 26 (0, 0)) := by
    rw [hX]; exact block_alloc_old _ (block_alloc_new W1 _)
  have blk : w2.heap[W1.heap.size]? = some (.cells #[In o1, In l1, .slice q1 f1.len c1, In o2, In l2, .slice q2 f2.len c2] 26 (0, 0)) :=
    (hg.block _ (lt_of_block blkX) (fun e => by have := (hlt2 _ e.symm).2; omega)).trans blkX
  have hrow : RowAt (fun k => Z k ∨ k = W1.heap.size) w2 G ys := h.row2.keep hC kz (fun k hk => .inl hk)
  have hz1 : SlZ (fun k => Z k ∨ k = W1.heap.size) w2 (.slice q1 f1.len c1) f1 := (hs1.keep hC kz).mono (fun k hk => .inl hk)
  have hz2 : SlZ (fun k => Z k ∨ k = W1.heap.size) w2 (.slice q2 f2.len c2) f2 := (hs2.keep hC kz).mono (fun k hk => .inl hk)
  refine ⟨by rw [Fms.app_len, h.hi]; simp [Fms.len]; omega, hi2, ?_, ?_, h.row.keep hC kz (fun k hk => .inl hk), ?_, ?_, ?_, ?_, ?_, ?_⟩
  · rw [← h.eq, hd, Fms.app_assoc]; rfl
  · exact (ownsRow_below h.own (hbX)).kept hg (.inr (fun e => (h.nz2 g e.symm).2 rfl))
  · rw [Fms.app_len]
    refine ownsRow_rebase ho (fun b hb => ?_)
    rcases hn with e | e
    · exact (hlt2 b (by rw [← e]; exact hb)).1
    · have := e b hb; omega
  · refine hrow.snoc (.inr ⟨W1.heap.size, 0, 2, rfl, ?_⟩)
    have ck : ∀ o u, (#[In o1, In l1, .slice q1 f1.len c1, In o2, In l2, .slice q2 f2.len c2] : Array Value)[o]? = some u → w2.cell? ⟨W1.heap.size, o, none⟩ = some u := fun o u hu => cell_of blk hu
    exact ⟨.inr rfl, ⟨_, ck 0 _ rfl, ck 1 _ rfl, ck 2 _ rfl, hz1⟩, .inr rfl, ⟨_, ck 3 _ rfl, ck 4 _ rfl, ck 5 _ rfl, hz2⟩, trivial⟩
  · rintro (h' | h')
    · exact h.nz h'
    · have := hgl.2; omega
  · intro b hb
    rcases hn with e | e
    · rw [e] at hb
      have := hlt2 b hb
      have h2 := h.nz2 b hb
      exact ⟨fun h' => by rcases h' with h' | h'; exact h2.1 h'; omega, h2.2⟩
    · have h1 := e b hb
      refine ⟨fun h' => ?_, by have := hgl.2; omega⟩
      rcases h' with h' | h'
      · have := h.lt b h'; omega
      · omega
  · intro k hk
    have := hg.size
    rcases hk with hk | rfl
    · have := h.lt k hk; omega
    · omega
  · exact ((h.b.trans (hbX.mono hw)).grown hg (by omega) (fun k e => (hlt2 k e).1))

theorem CRel.last {w wr X w2 : World} {F : Fms} {g c : Nat} {xs : List Value} {i m k : Nat} {G : Fms} {v2 v' : Value} {ys : List Value} {Z Z0 : Nat → Prop} {wo : World} (h : CRel w wr F g c xs i G v2 ys Z) (hB : BRel w m k wo F g c xs Z0) (h1 : 1 < F.len) {o1 l1 : Int} {f1 : Fms} {q1 : Option Addr} {c1 : Nat}
    (hd : F.drop i = .cons o1 l1 f1 .nil) (hs1 : SlZ Z wr (.slice q1 f1.len c1) f1)
    (hX : X = wr.alloc (.cells #[In o1, In l1, .slice q1 f1.len c1] 26))
    (ho : w2.ownsRow 0 26 3 v' (G.len + 1) (ys ++ [In o1, In l1, .slice q1 f1.len c1])) (hg : X.grownBy w2 v2.ownBlock) (hn : v'.ownBlock = v2.ownBlock ∨ ∀ b, v'.ownBlock = some b → X.heap.size ≤ b) :
    ∃ g' c', v' = .slice (some ⟨g', 0, none⟩) (pairUp F).len c' ∧ BRel w m (k + 1) w2 (pairUp F) g' c' (ys ++ [In o1, In l1, .slice q1 f1.len c1]) Z := by
  have hbX : Below wr.heap.size wr X := by rw [hX]; exact (Below.refl _ _).alloc (Nat.le_refl _) _
  have hXs : X.heap.size = wr.heap.size + 1 := by rw [hX]; simp
  have hC : Chg (fun b => v2.ownBlock = some b) wr w2 := (Chg.of_below hbX).grown hg (fun k e _ => e)
  have hlt2 : ∀ b, v2.ownBlock = some b → w.heap.size ≤ b ∧ b < wr.heap.size := fun b hb => ownsRow_lo h.own2 hb
  have hw := h.b.size
  have kz : ∀ k, Z k → ¬ v2.ownBlock = some k := fun k hk e => (h.nz2 k e).1 hk
  have hrow : RowAt Z w2 G ys := h.row2.keep hC kz (fun k hk => hk)
  have hz1 : SlZ Z w2 (.slice q1 f1.len c1) f1 := hs1.keep hC kz
  refine BRel.done (Z := Z) hB h1 (G := G.app (.cons o1 l1 f1 .nil)) ?_ ?_ (hrow.snoc hz1) ?_ ?_ ?_
  · rw [← h.eq, hd]; rfl
  · rw [Fms.app_len]
    refine ownsRow_rebase ho (fun b hb => ?_)
    rcases hn with e | e
    · exact (hlt2 b (by rw [← e]; exact hb)).1
    · have := e b hb; omega
  · intro b hb
    rcases hn with e | e
    · rw [e] at hb; exact (h.nz2 b hb).1
    · have h1 := e b hb
      intro h'
      have := h.lt b h'; omega
  · intro k hk
    have := hg.size
    have := h.lt k hk; omega
  · exact ((h.b.trans (hbX.mono hw)).grown hg (by omega) (fun k e => (hlt2 k e).1))
theorem CRel.even {w wr wo : World} {F : Fms} {g c : Nat} {xs : List Value} {i m k : Nat} {G : Fms} {v2 : Value} {ys : List Value} {Z Z0 : Nat → Prop} (h : CRel w wr F g c xs i G v2 ys Z) (hB : BRel w m k wo F g c xs Z0) (h1 : 1 < F.len) (hi : i = F.len) :
    ∃ g' c', v2 = .slice (some ⟨g', 0, none⟩) (pairUp F).len c' ∧ BRel w m (k + 1) wr (pairUp F) g' c' ys Z := by
  subst hi
  refine BRel.done hB h1 ?_ h.own2 h.row2 (fun b hb => (h.nz2 b hb).1) h.lt h.b
  have := h.eq
  rw [Fms.drop_len] at this
  simpa [pairUp, Fms.app_nil] using this
/-- An element of the list l, its cells. -/
theorem CRel.at {w wr : World} {F : Fms} {g c : Nat} {xs : List Value} {i : Nat} {G : Fms} {v2 : Value} {ys : List Value} {Z : Nat → Prop} (h : CRel w wr F g c xs i G v2 ys Z) {j : Nat} (hj : j < F.len) :
    ∃ op la of q cq, F.get j = some (op, la, of) ∧ F.drop j = .cons op la of (F.drop (j + 1)) ∧ wr.cell? ⟨g, j * 3, none⟩ = some (In op) ∧ wr.cell? ⟨g, j * 3 + 1, none⟩ = some (In la) ∧ wr.cell? ⟨g, j * 3 + 2, none⟩ = some (.slice q of.len cq) ∧ SlZ Z wr (.slice q of.len cq) of := by
  obtain ⟨op, la, of, hget, hdrop⟩ := Fms.drop_get hj
  obtain ⟨s, h1, h2, h3, h4⟩ := h.row.2 j op la of hget
  obtain ⟨q, cq, rfl⟩ := h4.is.slice
  have hl := h.row.1
  exact ⟨op, la, of, q, cq, hget, hdrop, (h.own.cellAt _ (by omega)).trans h1, (h.own.cellAt _ (by omega)).trans h2, (h.own.cellAt _ (by omega)).trans h3, h4⟩
end Go.Proofs.YthbkdbnalkeieaaDoor
