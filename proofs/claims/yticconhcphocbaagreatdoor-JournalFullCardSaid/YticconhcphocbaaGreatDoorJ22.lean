/- The law on what a journal keeps: how the journal stands. -/
import Derived.Test.YticconhcphocbaaGreatDoorJ21
namespace Go.Proofs.YticconhcphocbaaGreatDoor
open Go.RowKit Go.Sort Go.Shelf

/-- How the journal stands: the blocks behind it hold its groups. -/
structure At3 (ds : List Nat) (w : World) (b0 jb : Nat) (op : Bool) (L : List (Bool × Int)) (G : List (List (Bool × Int))) (wr : World) : Prop where
  res : wr.heap[b0]? = some (.cells #[.bool false] 4 (0, 0))
  jr : ∃ s d, JB wr jb s op d (.slice none 0 0) true ∧ Stp (fun k => jb < k) wr s L ∧ Grp (fun k => jb < k) wr d G
  bel : Below b0 w wr
  lt : b0 < jb
  marks : ∀ D ∈ ds, jb < D ∧ wr.heap[D]? = some (.deferred (some []))


theorem At3.later {ds : List Nat} {w wr w' : World} {b0 jb : Nat} {op : Bool} {L : List (Bool × Int)} {G : List (List (Bool × Int))} (h : At3 ds w b0 jb op L G wr) (hb : Below wr.heap.size wr w') : At3 ds w b0 jb op L G w' := by
  obtain ⟨h1, ⟨s, d, h2, h3, xs, h4, h5⟩, h6, h7, h8⟩ := h
  have hlt := lt_of_block h1
  exact ⟨(hb.block _ hlt).trans h1, ⟨s, d, h2.later hb, Rw.later h3 hb, xs, Rw.later h4 hb, fun i M hM => by obtain ⟨v, e, k⟩ := h5 i M hM; exact ⟨v, e, Rw.later k hb⟩⟩, h6.trans (hb.mono (by omega)), h7, fun D hD => ⟨(h8 D hD).1, (hb.block D (lt_of_block (h8 D hD).2)).trans (h8 D hD).2⟩⟩
theorem At3.chg {ds : List Nat} {w wr w' : World} {b0 jb : Nat} {op op' : Bool} {L L' : List (Bool × Int)} {G G' : List (List (Bool × Int))} (h : At3 ds w b0 jb op L G wr) (hc : Chg (fun k => k = jb) wr w')
    (hj : ∃ s d, JB w' jb s op' d (.slice none 0 0) true ∧ Stp (fun k => jb < k) w' s L' ∧ Grp (fun k => jb < k) w' d G') : At3 ds w b0 jb op' L' G' w' := by
  obtain ⟨h1, _, h6, h7, h8⟩ := h
  have hlt := lt_of_block h1
  exact ⟨hc.keep h1 (by omega), hj, h6.trans (hc.below (fun k _ e => by omega) (by omega)), h7, fun D hD => ⟨(h8 D hD).1, hc.keep (h8 D hD).2 (by have := (h8 D hD).1; omega)⟩⟩
theorem Grp.kept {w w' : World} {jb : Nat} {d : Value} {G : List (List (Bool × Int))} (h : Grp (fun k => jb < k) w d G) (hc : Chg (fun k => k = jb) w w') : Grp (fun k => jb < k) w' d G := by
  obtain ⟨xs, h4, h5⟩ := h
  exact ⟨xs, h4.keep hc (fun k hk e => by omega), fun i M hM => by obtain ⟨v, e, k⟩ := h5 i M hM; exact ⟨v, e, Rw.keep k hc (fun k hk e => by omega)⟩⟩

theorem At3.begins {ds : List Nat} {w wr : World} {b0 jb : Nat} {L : List (Bool × Int)} {G : List (List (Bool × Int))} (h : At3 ds w b0 jb false L G wr) :
    Calls Tryz.prog 8 #[.pointer (some ⟨jb, 0, none⟩)] wr fun e w' => e = .returned (.int .i64 0) ∧ At3 ds w b0 jb true [] G w' := by
  obtain ⟨s, d, hj, hs, hg⟩ := h.jr
  refine (begin_any jb s d _ wr hj).mono ?_
  rintro e w' ⟨rfl, hj', hc⟩
  exact ⟨rfl, h.chg hc ⟨_, d, hj', Rw.nil _ _ 9, hg.kept hc⟩⟩
theorem At3.notes {ds : List Nat} {w wr : World} {b0 jb : Nat} {L : List (Bool × Int)} {G : List (List (Bool × Int))} (h : At3 ds w b0 jb true L G wr) (pt : Bool) (id : Int) (h1 : 1 ≤ id) (h2 : id ≤ 1000) (hl : L.length < 128) :
    Calls Tryz.prog 10 #[.pointer (some ⟨jb, 0, none⟩), .agg #[.bool pt, Ii id, Ii 0, .bool true, Ii id, Ii 0, Ii id, Ii 1, .slice none 0 0]] wr fun e w' => e = .returned (.int .i64 0) ∧ At3 ds w b0 jb true (L ++ [(pt, id)]) G w' := by
  obtain ⟨s, d, hj, hs, hg⟩ := h.jr
  refine (note_open jb s d _ L pt id wr hj hs h1 h2 hl).mono ?_
  rintro e w' ⟨rfl, ⟨s', hj', hs'⟩, hc⟩
  have := hj.lt
  exact ⟨rfl, h.chg hc ⟨s', d, hj', hs'.mono fun k hk => by omega, hg.kept hc⟩⟩
theorem At3.full {ds : List Nat} {w wr : World} {b0 jb : Nat} {L : List (Bool × Int)} {G : List (List (Bool × Int))} (h : At3 ds w b0 jb true L G wr) (pt : Bool) (id : Int) (h1 : 1 ≤ id) (h2 : id ≤ 1000) (hl : 128 ≤ L.length) :
    Calls Tryz.prog 10 #[.pointer (some ⟨jb, 0, none⟩), .agg #[.bool pt, Ii id, Ii 0, .bool true, Ii id, Ii 0, Ii id, Ii 1, .slice none 0 0]] wr fun e w' => e = .returned (.int .i64 3) ∧ At3 ds w b0 jb true L G w' := by
  obtain ⟨s, d, hj, hs, hg⟩ := h.jr
  obtain ⟨p0, c0, rfl⟩ := Rw.slice hs
  refine (note_full jb p0 _ c0 d _ pt id wr hj h1 h2 hl).mono ?_
  rintro e w' ⟨rfl, hb⟩
  exact ⟨rfl, h.later hb⟩
theorem At3.ends {ds : List Nat} {w wr : World} {b0 jb : Nat} {L : List (Bool × Int)} {G : List (List (Bool × Int))} (h : At3 ds w b0 jb true L G wr) (hL : L ≠ []) (hG : G.length ≤ 64) :
    Calls Tryz.prog 12 #[.pointer (some ⟨jb, 0, none⟩)] wr fun e w' => e = .returned (.int .i64 0) ∧ At3 ds w b0 jb false [] ((G ++ [L]).drop (G.length + 1 - 64)) w' := by
  obtain ⟨s, d, hj, hs, hg⟩ := h.jr
  refine (end_open jb s d _ L G wr hj hs hg (by omega) hL hG).mono ?_
  rintro e w' ⟨rfl, ⟨d', hj', hg'⟩, hc⟩
  have hlt := hj.lt
  obtain ⟨xs, h4, h5⟩ := hg'
  refine ⟨rfl, h.chg hc ⟨_, d', hj', Rw.nil _ _ 9, xs, h4.mono fun k hk => by omega, fun i M hM => ?_⟩⟩
  obtain ⟨v, e, k⟩ := h5 i M hM
  exact ⟨v, e, Rw.mono k fun k hk => by omega⟩
theorem At3.cancels {ds : List Nat} {w wr : World} {b0 jb : Nat} {L : List (Bool × Int)} {G : List (List (Bool × Int))} (h : At3 ds w b0 jb true L G wr) (hL : L.length ≤ 1000) :
    Calls Tryz.prog 15 #[.pointer (some ⟨jb, 0, none⟩)] wr fun e w' => (∃ p c, e = .returned (.tuple #[.slice p L.length c, .int .i64 0])) ∧ At3 ds w b0 jb false [] G w' := by
  obtain ⟨s, d, hj, hs, hg⟩ := h.jr
  refine (cancel_open jb s d _ L wr hj hs (by omega) hL).mono ?_
  rintro e w' ⟨⟨v, rfl, hs'⟩, hj', hc⟩
  obtain ⟨p, c, rfl⟩ := Rw.slice hs'
  exact ⟨⟨p, c, by simp⟩, h.chg hc ⟨_, d, hj', Rw.nil _ _ 9, hg.kept hc⟩⟩
theorem At3.lens {ds : List Nat} {w wr : World} {b0 jb : Nat} {op : Bool} {L : List (Bool × Int)} {G : List (List (Bool × Int))} (h : At3 ds w b0 jb op L G wr) :
    Calls Tryz.prog 13 #[.pointer (some ⟨jb, 0, none⟩)] wr fun e w' => e = .returned (.tuple #[.int .i64 G.length, .int .i64 0]) ∧ At3 ds w b0 jb op L G w' := by
  obtain ⟨s, d, hj, hs, xs, hr, he⟩ := h.jr
  obtain ⟨p, c, rfl⟩ := Rw.slice hr
  refine (len_any jb s op p none G.length 0 c 0 wr hj).mono ?_
  rintro e w' ⟨rfl, hb⟩
  exact ⟨rfl, h.later hb⟩
theorem Grp.inn {Z : Nat → Prop} {w : World} {d : Value} {G : List (List (Bool × Int))} (h : Grp Z w d G) : Grp (fun k => Z k ∧ k < w.heap.size) w d G := by
  obtain ⟨xs, h4, h5⟩ := h
  exact ⟨xs, h4.inn (by decide), fun i M hM => by obtain ⟨v, e, k⟩ := h5 i M hM; exact ⟨v, e, Rw.inn k (by decide)⟩⟩
theorem Grp.later {Z : Nat → Prop} {w w' : World} {d : Value} {G : List (List (Bool × Int))} (h : Grp Z w d G) (hb : Below w.heap.size w w') : Grp Z w' d G := by
  obtain ⟨xs, h4, h5⟩ := h
  exact ⟨xs, Rw.later h4 hb, fun i M hM => by obtain ⟨v, e, k⟩ := h5 i M hM; exact ⟨v, e, Rw.later k hb⟩⟩
/-- Steps, and what its iterator goes over: blocks of Z. -/
theorem steps_at {Z : Nat → Prop} {jb : Nat} {s d : Value} {op : Bool} {G : List (List (Bool × Int))} {w : World} (h : JB w jb s op d (.slice none 0 0) true) (hg : Grp Z w d G) (hG : G.length ≤ 1000000) (hL : ∀ L ∈ G, L.length ≤ 1000000) :
    Calls Tryz.prog 14 #[.pointer (some ⟨jb, 0, none⟩)] w fun e w' => e = .returned (.func (.func 33) #[] #[.pointer (some ⟨w.heap.size, 0, none⟩)]) ∧
      (∀ n, IterX Fence.wide n Tryz.prog 33 #[.pointer (some ⟨w.heap.size, 0, none⟩)] stV (KpZ Z) (fun ys => ys = G.flatten) (fun pre => pre <+: G.flatten) G.flatten w') ∧ Below w.heap.size w w' := by
  obtain ⟨p, c, rfl⟩ : ∃ p c, d = .slice p G.length c := by obtain ⟨xs, hr, _⟩ := hg; exact Rw.slice hr
  refine (steps_any jb s _ p G.length c op w h).mono ?_
  rintro e w' ⟨rfl, hbx, hb⟩
  exact ⟨rfl, fun n => steps_iter Z n _ _ G w' hbx (hg.later hb) hG hL, hb⟩
end Go.Proofs.YticconhcphocbaaGreatDoor
