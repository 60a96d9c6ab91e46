/- The library's calls at this program, in the words of the proof. -/
import Derived.Test.YtnaeiffaabeokaaSets
import Derived.RangeFuncBound
namespace Go.Proofs.Ytnaeiffaabeokaa
open Go.RowKit Go.Maps Go.MapKept Go.Sort Go.Shelf

theorem set_clone (m : Nat) (T : List Int) (w : World) (h : IsSet w m T) :
    Calls Try.prog 16 #[.map (some m)] w fun e w' => e = .returned (.map (some w.heap.size)) ∧ IsSet w' w.heap.size T ∧ w'.heap.size = w.heap.size + 1 ∧ Below w.heap.size w w' := by
  obtain ⟨es, clock, hb, r⟩ := h
  refine (AnyW.maps_Clone Try.mapCloneL m es clock w hb).mono ?_
  rintro e w' ⟨rfl, rfl⟩
  exact ⟨rfl, ⟨es, clock, block_alloc_new w _, r⟩, by simp, (Below.refl _ w).alloc (Nat.le_refl _) _⟩

theorem set_equal (m1 m2 : Nat) (T U : List Int) (w : World) (h1 : IsSet w m1 T) (h2 : IsSet w m2 U) :
    Calls Try.prog 23 #[.map (some m1), .map (some m2)] w fun e w' => e = .returned (.bool (decide (T.length = U.length) && T.all (fun x => decide (x ∈ U)))) ∧ Below w.heap.size w w' := by
  have := AnyEq.maps_Equal Try.mapEqL keyed3 (plainElem Try.prog 4) (plainElem Try.prog 4) sameB m1 m2 T.length U.length (datum T) (datum U) w h1.owns h2.owns (.bool false) Try.zeroValue4 (.lit (.bool false)) [] (plainElem_bool Try.underlying4 false) neq_bool
  refine Calls.mono this ?_
  rintro e w' ⟨rfl, hg⟩
  rw [datum_equal]
  exact ⟨rfl, (Below.refl _ w).grown hg (Nat.le_refl _) (by simp)⟩

theorem list_clone (v : Value) (n : Nat) (xs : List Int) (w : World) (h : w.ownsRow 0 3 1 v n (xs.map In)) (hn : n < 1073741824) :
    Calls Try.prog 15 #[v] w fun e w' => ∃ v', e = .returned v' ∧ w'.ownsRow w.heap.size 3 1 v' n (xs.map In) ∧ Below w.heap.size w w' := by
  obtain ⟨i0, hi, hz0, hz1, hz2⟩ := info_parts (P := Try.prog) (e := 3) (z := .int .i64 0) (size := 1) (bytes := 8) (by kernel_rfl)
  have hl := h.1
  rcases h.2 with ⟨rfl, rfl⟩ | ⟨b, cap, cur, rfl, _, hb, _⟩
  · refine Calls.mono (AnyE.slices_Clone_nil Try.sliceCloneL 0 0 w) ?_
    rintro e w' ⟨rfl, rfl⟩
    have : xs = [] := by simpa using hl
    subst this
    exact ⟨_, rfl, World.ownsRow_nil _ _ _ _, Below.refl _ _⟩
  · have hc : ∀ j u, (xs.map In)[j]? = some u → w.cell? ⟨b, 0 + j, none⟩ = some u := by
      intro j u hj
      have := h.cells rfl j u hj
      have e : (⟨b, 0, none⟩ : Addr).add j = ⟨b, j, none⟩ := by unfold Addr.add; split <;> simp [*]
      rw [e] at this
      simpa using this
    have := AnyE.slices_Clone Try.sliceCloneL i0 (.int .i64 0) 1 8 hi hz0 hz1 hz2 rfl (by decide) Try.sizeOf3 b 0 n cap (xs.map In) w hl (by unfold maxLen; omega) (by omega) hc (by
      intro u hu
      obtain ⟨x, _, rfl⟩ := List.mem_map.1 hu
      rfl)
    refine Calls.mono this ?_
    rintro e w' ⟨v', rfl, ho, _, hbel⟩
    exact ⟨v', rfl, ho, hbel⟩

/-! ### slices.Sorted(maps.Keys(m)) -/
theorem sortsA (m : Nat) : AnyZI.SortsIn Try.prog Try.sortedL_ren Fence.wide m :=
  ⟨fun blk off cap ss W hH hblk hsz => callsIn_wide.2 (AnyM.slices_Sort_int Try.sortL blk off cap ss W hH hblk hsz),
   fun p cap W => callsIn_wide.2 (AnyM.slices_Sort_int_none Try.sortL p cap W)⟩

theorem keys_any (mb : Option Nat) (w : World) :
    Calls Try.prog 33 #[.map mb] w fun e w' => e = .returned (.func (.func 37) #[] #[.pointer (some ⟨w.heap.size, 0, none⟩)]) ∧ w' = w.alloc (.cells #[.map mb] 43) :=
  callsIn_wide.1 (AnyZI.keys_in Try.keysL Fence.wide 5 trivial rfl mb w)

theorem datum_keys (T : List Int) : (intKeys (datum T)).Perm T := by
  have hp : ∀ l : List (Lit × DataW Unit), (l.foldr DataW.insert []).Perm l := by
    intro l
    induction l with
    | nil => exact .refl _
    | cons x l ih =>
      rw [List.foldr_cons]
      have hi : ∀ l' : List (Lit × DataW Unit), (DataW.insert x l').Perm (x :: l') := by
        intro l'
        induction l' with
        | nil => exact .refl _
        | cons y l' ih' =>
          unfold DataW.insert
          split
          · exact .refl _
          · exact (List.Perm.cons y ih').trans (List.Perm.swap x y l')
      exact (hi _).trans (List.Perm.cons x ih)
  have := (hp (datumL T)).map (fun p => Go.intOf p.1)
  refine (show (intKeys (datum T)).Perm ((datumL T).map (fun p => Go.intOf p.1)) from this).trans ?_
  have e : (datumL T).map (fun p => Go.intOf p.1) = T := by
    unfold datumL
    rw [List.map_map]
    exact (List.map_congr_left (fun x _ => rfl)).trans (List.map_id T)
  rw [e]

theorem sorted_any (m B : Nat) (T : List Int) (w : World) (h : IsSet w m T) (hB : w.heap[B]? = some (.cells #[.map (some m)] 43 (0, 0))) (hlen : T.length < 1073741824) :
    Calls Try.prog 32 #[.func (.func 37) #[] #[.pointer (some ⟨B, 0, none⟩)]] w fun e w' => ∃ (v : Value) (ss : List Int), e = .returned v ∧ ss.Perm T ∧ ss.Pairwise (· ≤ ·) ∧
      w'.ownsRow w.heap.size 3 1 v ss.length (ss.map In) ∧ Below w.heap.size w w' := by
  have hseq : SeqGives Fence.wide 2 Try.prog 37 #[.pointer (some ⟨B, 0, none⟩)] encZ (fun ss => ss.Perm (intKeys (datum T))) (Maps.size (datum T)) w :=
    AnyZI.keys_gives (ρ := Try.keysL_ren) { Try.keysL with } Fence.wide _ trivial rfl (by omega) B m T.length (datum T) w (lt_of_block hB) (cell_of_one hB) h.owns
  have cS := AnyZI.sorted_in Try.sortedL Fence.wide 5 trivial trivial trivial trivial rfl (by omega) (sortsA _) (enters_of Try.func36 (by kernel_rfl) rfl) 37 #[.pointer (some ⟨B, 0, none⟩)] trivial (enters_of Try.func37 (by kernel_rfl) rfl) _ _ (by rw [datum_size]; unfold maxLen; omega) (by rw [datum_size]; omega) w hseq
  refine Calls.mono (callsIn_wide.1 cS) ?_
  rintro e w' ⟨v, ss, rfl, hS, hrow, _, hb⟩
  refine ⟨v, ss.mergeSort leI, rfl, (List.mergeSort_perm ss leI).trans (hS.trans (datum_keys T)), ?_, ?_, hb⟩
  · have := List.pairwise_mergeSort (le := leI) (fun a b c h1 h2 => by simp only [leI, decide_eq_true_eq] at *; omega) (fun a b => by simp only [leI, Bool.or_eq_true, decide_eq_true_eq]; omega) ss
    exact this.imp (fun h => by simpa [leI] using h)
  · rw [List.length_mergeSort]
    exact hrow
#print axioms sorted_any
end Go.Proofs.Ytnaeiffaabeokaa
