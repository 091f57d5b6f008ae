/- Pinned of package epoch: the tasks that are pinned, rising, in a new row. -/
import Derived.Test.YtidiefcgepllmaaEpoch
import Derived.Test.YtidiefcgepllmaaKeysIU
namespace Go.Proofs.Ytidiefcgepllmaa
open Go.RowKit Go.Maps Go.Sort Go.Shelf
def anyElem : Value → Option (DataW Unit × List MemPlace) := fun _ => some (.nil, [])
def pnData (S : List Pn) : DataW Unit := .map ((S.map fun x => (Lit.int .i64 x.task, DataW.nil)).foldr DataW.insert [])
theorem pn_own {P : Program} {K : TypeId} (hK : P.underlying K = some (.int .i64)) {w : World} {m c : Nat} {S : List Pn} (hb : w.heap[m]? = some (.map (pnEnts S) c)) (bd : Born Pn.born S c) (nd : (S.map Pn.task).Nodup)
    (hwf : ∀ x, x ∈ S → (Lit.int .i64 x.task).wf = true) (hl : S.length ≤ maxLen) : w.ownsMap P K anyElem m S.length (pnData S) := by
  refine ⟨pnEnts S, c, hb, ⟨by simp [ents]; exact hl, ⟨?_, ?_, ?_⟩, ?_⟩, by simp [ents], ?_⟩
  · intro x hx
    obtain ⟨y, hy, rfl⟩ := mem_entOf hx
    exact bd.2 y hy
  · rw [entOf_born]; exact bd.1
  · have : ((pnEnts S).toList.map (·.key)) = S.map fun x => Value.int .i64 x.task := by simp [ents, entOf, Ent.toEntry]
    rw [this]
    have h2 := nd
    unfold List.Nodup at h2 ⊢
    rw [List.pairwise_map] at h2 ⊢
    exact h2.imp fun hne he => hne (by injection he)
  · intro x hx
    obtain ⟨y, hy, rfl⟩ := mem_entOf hx
    exact ⟨_, by simp [Go.WideElems.rd, keyOf_int_mk hK (hwf y hy), anyElem]; rfl⟩
  · unfold pnData
    congr 2
    simp only [ents, List.map_map]
    refine List.map_congr_left fun x hx => ?_
    simp [entOf, Ent.toEntry, Go.WideElems.rg, Go.WideElems.rd, keyOf_int_mk hK (hwf x hx), anyElem]
theorem intKeys_pn (S : List Pn) : (intKeys (pnData S)).Perm (S.map Pn.task) := by
  have h := (Go.WideShapes.sorted_perm (S.map fun x => (Lit.int .i64 x.task, (DataW.nil : DataW Unit)))).map fun p => Go.intOf p.1
  simpa [pnData, Go.intKeys, Go.intOf, Function.comp_def] using h
abbrev intCell (x : Int) : List Value := [.int .i64 x]
/-- The tasks, rising. -/
def rising (S : List Pn) : List Int := (S.map Pn.task).mergeSort fun x y => decide (x ≤ y)
theorem Try.sortsInt (m : Nat) : AnyZI.SortsIn Try.prog Try.sortedInt_ren Fence.wide m :=
  ⟨fun blk off cap ss W hH hblk hsz => callsIn_wide.2 (AnyM.slices_Sort_int Try.sortInt blk off cap ss W hH hblk hsz),
   fun p cap W => callsIn_wide.2 (AnyM.slices_Sort_int_none Try.sortInt p cap W)⟩
theorem keysIU_any (m : Option Nat) (w : World) : Calls Try.prog 31 #[.map m] w fun e w' => e = .returned (.func (.func 39) #[] #[.pointer (some ⟨w.heap.size, 0, none⟩)]) ∧ w' = w.alloc (.cells #[.map m] 49) :=
  (callsIn_wide (n := 5)).1 (AnyZI.keys_in Try.keysIU Fence.wide 5 trivial rfl m w)
theorem sortedIU_any (S : List Pn) (m c Bm : Nat) (w : World) (hb : w.heap[m]? = some (.map (pnEnts S) c)) (bd : Born Pn.born S c) (nd : (S.map Pn.task).Nodup)
    (hwf : ∀ x, x ∈ S → (Lit.int .i64 x.task).wf = true) (hl : S.length ≤ 1000000) (hBm : w.cell? ⟨Bm, 0, none⟩ = some (.map (some m))) :
    Calls Try.prog 30 #[.func (.func 39) #[] #[.pointer (some ⟨Bm, 0, none⟩)]] w fun e w' => ∃ v, e = .returned v ∧ Row w.heap.size 3 1 intCell w' v (rising S) ∧ Below w.heap.size w w' := by
  have hown := pn_own (P := Try.prog) (K := 3) Try.underlying3 hb bd nd hwf (by unfold maxLen; omega)
  have hsz : Maps.size (pnData S) = S.length := by simp [Maps.size, pnData, (Go.WideShapes.sorted_perm _).length_eq]
  have hseq : SeqGives Fence.wide (4 - 1 - 1 - 1 + 1) Try.prog 39 #[.pointer (some ⟨Bm, 0, none⟩)] encZ (fun ss => ss.Perm (intKeys (pnData S))) (Maps.size (pnData S)) w :=
    AnyZI.keys_gives (ρ := Try.keysIU_ren) { Try.keysIU with } Fence.wide _ trivial rfl (by omega) Bm m S.length (pnData S) _ (block_lt_of_cell hBm) hBm hown
  have cS := AnyZI.sorted_in Try.sortedInt Fence.wide 5 trivial trivial trivial trivial rfl (by omega) (Try.sortsInt _) (enters_of Try.func38 (by kernel_rfl) rfl) 39 #[.pointer (some ⟨Bm, 0, none⟩)] trivial (enters_of Try.func39 (by kernel_rfl) rfl) _ _ (by rw [hsz]; unfold maxLen; omega) (by rw [hsz]; omega) _ hseq
  refine ((callsIn_wide (n := 5)).1 cS).mono ?_
  rintro e w' ⟨v, ss, rfl, hS, hrow, _, hbl⟩
  refine ⟨v, rfl, ⟨fun _ => rfl, ?_, ?_⟩, hbl⟩
  · intro x y hy
    simp at hy
    subst hy
    rfl
  · have hm : ss.mergeSort (fun x y => decide (x ≤ y)) = rising S := mergeSort_of_perm_i (hS.trans (intKeys_pn S))
    have hle : ss.length = (rising S).length := by rw [← hm, List.length_mergeSort]
    rw [hm, hle] at hrow
    have : (rising S).flatMap intCell = (rising S).map encZ := by
      induction rising S with
      | nil => rfl
      | cons a l ih => simp [ih]
    rw [this]
    exact hrow
theorem epPinned_any (base e m : Nat) (v : Value) (S : List Pn) (c now : Nat) (b : Bool) (L : List Ret) (w : World) (h : EpIs base w e m v S c now b L) (hwf : ∀ x, x ∈ S → (Lit.int .i64 x.task).wf = true) (hl : S.length ≤ 1000000) :
    Calls Try.prog 17 #[.pointer (some ⟨e, 0, none⟩)] w fun x w' => ∃ v, x = .returned v ∧ Row w.heap.size 3 1 intCell w' v (rising S) ∧ Below w.heap.size w w' := by
  have c0 := h.at'.cells.1
  have hB : Below w.heap.size w (w.alloc (.cells #[.map (some m)] 49)) := (Below.refl _ _).alloc (Nat.le_refl _) _
  have hs := Lib.hid (sortedIU_any S m c w.heap.size (w.alloc (.cells #[.map (some m)] 49)) (heap_alloc_old _ h.at'.map) h.at'.bd h.at'.nd hwf hl (by rw [cell_of_heap (heap_alloc_new _ _)]; rfl))
  have hk := Lib.hid (keysIU_any (some m) w)
  clear h hwf
  go_enter Try.func17, Try.ntmps17
  go_wp2_with fail
  refine hk.out.mono ?_
  rintro z w1 ⟨rfl, rfl⟩
  go_wp2_with fail
  refine hs.out.mono ?_
  rintro z w2 ⟨v2, rfl, hr, hb⟩
  go_wp2_with fail
  go_ret
  exact ⟨v2, rfl, hr.rebase (fun q hq => by have := (hr.lt q hq).1; simp at this; omega), hB.trans (hb.mono (by simp))⟩
end Go.Proofs.Ytidiefcgepllmaa
