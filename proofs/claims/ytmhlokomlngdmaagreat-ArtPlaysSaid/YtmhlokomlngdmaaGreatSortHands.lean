/- slices.SortFunc at []api.Handle by slots, on a slice of the call's own. -/
import Derived.Test.YtmhlokomlngdmaaGreatRowSort
import Derived.Test.YtmhlokomlngdmaaGreatSortHandles
import Derived.Test.YtmhlokomlngdmaaGreatChecked
import Derived.Test.YtmhlokomlngdmaaGreatArenaG
namespace Go.Proofs.YtmhlokomlngdmaaGreat
open Go.RowKit Go.Sort
def hcell (x : Int × Int) : List Value := [.int .i64 x.1, .int .u64 x.2]
theorem hcell_len (x : Int × Int) : (hcell x).length = 2 := rfl
theorem hcell_one (x : Int × Int) : ∀ y ∈ hcell x, y.oneCell' = true := by
  intro y hy
  simp [hcell] at hy
  rcases hy with rfl | rfl <;> rfl
def cmpSlot (x y : Int × Int) : Int := Lib.compareInt x.1 y.1
theorem ltSlot (x y : Int × Int) : ltOf cmpSlot x y = decide (x.1 < y.1) := by
  unfold ltOf cmpSlot Lib.compareInt
  by_cases h1 : x.1 < y.1
  · simp [h1]
  · by_cases h2 : y.1 < x.1 <;> simp [h1, h2]
theorem swoSlot : SWO (ltOf cmpSlot) where
  irrefl x := by rw [ltSlot]; simp
  trans x y z h1 h2 := by rw [ltSlot] at *; simp at *; omega
  ntrans x y z h1 h2 := by rw [ltSlot] at *; simp at *; omega
/-- A closure that compares two handles by their slots. -/
def CmpClo (g : FuncId) : Prop := ∀ (x y : Int × Int) (W : World), Calls Tryz.prog g #[.agg #[.int .i64 x.1, .int .u64 x.2], .agg #[.int .i64 y.1, .int .u64 y.2]] W fun e w' => e = .returned (.int .i64 (cmpSlot x y)) ∧ ∃ q os', w' = grow (W.drewN q) os'
theorem sortHands_any {base : Nat} {L : List (Int × Int)} (g : FuncId) (hg : CmpClo g) (eg : ∀ args w, (callFunc g args).run Tryz.prog w = .ok (.enter g args) w) (a : Option Addr) (c : Nat) (w : World) (h : Row base 77 2 hcell w (.slice a L.length c) L) (hl : L.length ≤ 1000000) :
    Calls Tryz.prog 73 #[.slice a L.length c, .func (.func g) #[] #[]] w fun e w' => e = .returned (.tuple #[]) ∧ ∃ L', L'.Perm L ∧ L'.Pairwise (fun x y => x.1 ≤ y.1) ∧ Row base 77 2 hcell w' (.slice a L.length c) L' ∧ Upd (Value.slice a L.length c).ownBlock.toList w w' := by
  rcases h.cases with ⟨h0, rfl⟩ | ⟨b, cap, h0, h1, h2, h3, h4, h5, _⟩
  · injection h0 with e1 e2 e3
    subst e1 e3
    have hc := AnyF.slices_SortFunc_none Tryz.sortHandles none 0 (.func (.func g) #[] #[]) w
    refine hc.mono ?_
    rintro z w' ⟨rfl, rfl⟩
    exact ⟨rfl, [], .refl _, by simp, h, Upd.refl _ _⟩
  · injection h0 with e1 e2 e3
    subst e1 e3
    have hcon := AnyQ.slices_SortFunc Tryz.sortHandles 2 Tryz.isAgg77 Tryz.sizeOf77 hcell hcell_len hcell_one cmpSlot swoSlot g #[] b 0 c L.toArray w eg (fun _ _ _ _ x y => hg x y _) (h.holdsK (by decide)) h2 (by simp; omega)
    refine hcon.mono ?_
    rintro z w' ⟨rfl, d', n, os, ⟨hp1, _, hp3⟩, hs, rfl⟩
    have hsz : d'.size = L.length := by simpa using hp1
    have hpm : d'.toList.Perm L := by
      have := hp3
      simp at this
      rwa [List.take_of_length_le (by simp [hsz])] at this
    obtain ⟨r1, r2⟩ := h.sorted (by decide) d'.toList (by simpa using hsz) n os
    refine ⟨rfl, d'.toList, hpm, ?_, by simpa using r1, by simpa [Value.ownBlock] using r2⟩
    rw [List.pairwise_iff_getElem]
    intro i j hi hj hij
    have h6 := hs i j (Nat.zero_le _) hij (by simpa [hsz] using hj)
    rw [ltSlot, getElem!_pos d' j (by simpa using hj), getElem!_pos d' i (by simpa using hi)] at h6
    simp at h6 ⊢
    exact h6
theorem hand_info : ∃ i0 : TypeInfo, Tryz.prog.info? 77 = some i0 ∧ i0.zero = some (.agg #[.int .i64 0, .int .u64 0]) ∧ i0.size = 2 ∧ i0.bytes = 16 := info_parts (show (Tryz.prog.info? 77).map (fun i => (i.zero, i.size, i.bytes)) = some (some (.agg #[.int .i64 0, .int .u64 0]), 2, 16) by kernel_rfl)
def hof (x : AEnt) : Int × Int := (x.slot, x.gen)
/-- The handles of what stands in an arena, by slots. -/
def handsOf (L : List AEnt) : List (Int × Int) := (L.map hof).mergeSort fun x y => decide (x.1 ≤ y.1)
theorem slots_sorted {L : List AEnt} (hn : (L.map AEnt.slot).Nodup) {M : List (Int × Int)} (hp : M.Perm (L.map hof)) (hs : M.Pairwise (fun x y => x.1 ≤ y.1)) : M = handsOf L := by
  have tr : ∀ a b c : Int × Int, decide (a.1 ≤ b.1) = true → decide (b.1 ≤ c.1) = true → decide (a.1 ≤ c.1) = true := fun a b c h1 h2 => by simp at *; omega
  have to : ∀ a b : Int × Int, (decide (a.1 ≤ b.1) || decide (b.1 ≤ a.1)) = true := fun a b => by simp; omega
  refine List.Perm.eq_of_pairwise (le := fun x y => x.1 ≤ y.1) (fun a b ha hb h1 h2 => ?_) hs ((List.pairwise_mergeSort tr to (L.map hof)).imp (fun h => by simpa using h)) (hp.trans (List.mergeSort_perm _ _).symm)
  have ha' := hp.mem_iff.1 ha
  have hb' := (List.mergeSort_perm _ _).mem_iff.1 hb
  obtain ⟨x, hx, rfl⟩ := List.mem_map.1 ha'
  obtain ⟨y, hy, rfl⟩ := List.mem_map.1 hb'
  have hxy : x.slot = y.slot := by simp [hof] at h1 h2; omega
  have : x = y := by
    have hn' := hn
    clear hn hp hs ha hb ha' hb' h1 h2
    induction L with
    | nil => cases hx
    | cons a l ih =>
      rw [List.map_cons, List.nodup_cons] at hn'
      rcases List.mem_cons.1 hx with hx | hx <;> rcases List.mem_cons.1 hy with hy | hy
      · rw [hx, hy]
      · exact absurd (by rw [← hx, hxy]; exact List.mem_map_of_mem hy) hn'.1
      · exact absurd (by rw [← hy, ← hxy]; exact List.mem_map_of_mem hx) hn'.1
      · exact ih hx hy hn'.2
  rw [this]
end Go.Proofs.YtmhlokomlngdmaaGreat
