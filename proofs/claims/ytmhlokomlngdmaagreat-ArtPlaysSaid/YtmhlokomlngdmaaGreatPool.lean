/- The contracts of package arena's pool: what its functions compute. -/
import Derived.Test.YtmhlokomlngdmaaGreatChecked
import Derived.Test.YtmhlokomlngdmaaGreatLib
import Derived.WalkKit
import Derived.WalkLawsBesides
import Derived.WalkSpells
import Derived.Outline
import Derived.BigQuiet
import Derived.WalkSmall
import Derived.Deep.RegionHeld3
import Derived.Deep.OwnRows
import Derived.RegionTactic
import Derived.BigRegion
import Derived.LoopTactic
namespace Go.Proofs.YtmhlokomlngdmaaGreat
open Go.RowKit
/-- A pool stands in memory: its own block p, its generations' block g, its marks' block f. -/
def PoolIs (w : World) (p g f : Nat) (gens : List Int) (free : List Bool) : Prop :=
  gens.length = free.length ∧ free.length ≤ 4096 ∧ p ≠ g ∧ p ≠ f ∧ g ≠ f ∧
  w.heap[p]? = some (.cells #[.slice (some ⟨g, 0, none⟩) free.length free.length, .slice (some ⟨f, 0, none⟩) free.length free.length, .int .i64 ((free.count true : Nat) : Int)] 69) ∧
  w.heap[g]? = some (.cells (gens.map fun x => Value.int .u64 x).toArray 70) ∧
  w.heap[f]? = some (.cells (free.map fun x => Value.bool x).toArray 4)
theorem index_any (b : Nat) (l : List Bool) (cap : Nat) (t : TypeId) (w : World) (hl : l.length ≤ 4096) (hb : w.heap[b]? = some (.cells (l.map fun x => Value.bool x).toArray t)) (hin : true ∈ l) :
    Calls Tryz.prog 77 #[.slice (some ⟨b, 0, none⟩) l.length cap, .bool true] w fun e w' => e = .returned (.int .i64 (l.idxOf true)) ∧ w = w' := by
  have hc := cell_of_heap hb
  have hlt : l.idxOf true < l.length := List.idxOf_lt_length_of_mem hin
  have hne : ∀ k, k < l.idxOf true → l[k]? = some false := by
    intro k hk
    have h1 := List.not_of_lt_findIdx (p := fun x => x == true) (xs := l) (i := k) hk
    rw [List.getElem?_eq_getElem (by omega)]
    simpa using h1
  have hit : l[l.idxOf true]? = some true := by
    rw [List.getElem?_eq_getElem hlt]
    simp
  generalize l.idxOf true = m at *
  replace hne := Lib.hid hne
  replace hc := Lib.hid hc
  clear hin hb
  go_enter Tryz.func77, Tryz.ntmps77
  go_wp2
  go_loop [8] (fun i => ∃ k : Nat, k ≤ m ∧ i = .int .i64 k) (fun i => m + 1 - (intOf i).toNat)
  case atStart => exact ⟨0, Nat.zero_le _, rfl⟩
  case round =>
    obtain ⟨k, hk, rfl⟩ := hrel
    have hkl : k < l.length := by omega
    by_cases hkm : k < m
    · have h1 : w.cell? ⟨b, k, none⟩ = some (.bool false) := by rw [hc.out]; simp [hne.out k hkm]
      go_wp2
      go_round
      case rel => exact ⟨k + 1, by omega, by go_num⟩
      case measure => simp [intOf]; omega
    · obtain rfl : k = m := by omega
      have h1 : w.cell? ⟨b, k, none⟩ = some (.bool true) := by rw [hc.out]; simp [hit]
      go_wp2
      go_ret
      exact ⟨rfl, rfl⟩
/-- A pool's cells. -/
theorem PoolIs.cells {w : World} {p g f : Nat} {gens : List Int} {free : List Bool} (h : PoolIs w p g f gens free) :
    w.cell? ⟨p, 0, none⟩ = some (.slice (some ⟨g, 0, none⟩) free.length free.length) ∧ w.cell? ⟨p, 1, none⟩ = some (.slice (some ⟨f, 0, none⟩) free.length free.length) ∧
    w.cell? ⟨p, 2, none⟩ = some (.int .i64 ((free.count true : Nat) : Int)) ∧ w.frozen? ⟨p, 2, none⟩ = false ∧
    (∀ i, w.cell? ⟨g, i, none⟩ = (gens[i]?).map fun x => Value.int .u64 x) ∧ (∀ i, w.cell? ⟨f, i, none⟩ = (free[i]?).map fun x => Value.bool x) ∧
    (∀ i, w.frozen? ⟨g, i, none⟩ = false) ∧ (∀ i, w.frozen? ⟨f, i, none⟩ = false) := by
  obtain ⟨_, _, _, _, _, h1, h2, h3⟩ := h
  refine ⟨?_, ?_, ?_, frozen_of_heap h1 2, fun i => ?_, fun i => ?_, frozen_of_heap h2, frozen_of_heap h3⟩
  · rw [cell_of_heap h1]; rfl
  · rw [cell_of_heap h1]; rfl
  · rw [cell_of_heap h1]; rfl
  · rw [cell_of_heap h2]; simp
  · rw [cell_of_heap h3]; simp
theorem pLive_any (p g f : Nat) (gens : List Int) (free : List Bool) (w : World) (h : PoolIs w p g f gens free) :
    Calls Tryz.prog 21 #[.pointer (some ⟨p, 0, none⟩)] w fun e w' => e = .returned (.int .i64 ((free.length : Int) - (free.count true : Nat))) ∧ Below w.heap.size w w' := by
  have h2 := h.cells.2.2.1
  have h1 := h.cells.2.1
  have h3 := h.2.1
  have h4 : free.count true ≤ free.length := List.count_le_length
  clear h
  go_enter Tryz.func21, Tryz.ntmps21
  go_wp2
  go_quiet (fail)
  go_wp2
  go_ret
  refine ⟨rfl, below_drewN (Below.refl _ _) _⟩
theorem pLive_nil (w : World) : Calls Tryz.prog 21 #[.pointer none] w fun e w' => e = .returned (.int .i64 0) ∧ w = w' := by
  go_enter Tryz.func21, Tryz.ntmps21
  go_wp2
  go_ret
  exact ⟨rfl, rfl⟩
theorem pRoom_any (p g f : Nat) (gens : List Int) (free : List Bool) (n : Int) (w : World) (h : PoolIs w p g f gens free) :
    Calls Tryz.prog 47 #[.pointer (some ⟨p, 0, none⟩), .int .i64 n] w fun e w' => e = .returned (.bool (decide (n ≤ (free.count true : Nat)))) ∧ Below w.heap.size w w' := by
  have h2 := h.cells.2.2.1
  clear h
  go_enter Tryz.func47, Tryz.ntmps47
  go_wp2
  go_ret
  exact ⟨rfl, Below.refl _ _⟩
theorem pRoom_nil (n : Int) (w : World) :
    Calls Tryz.prog 47 #[.pointer none, .int .i64 n] w fun e w' => e = .returned (.bool false) ∧ Below w.heap.size w w' := by
  go_enter Tryz.func47, Tryz.ntmps47
  go_wp2
  go_ret
  exact ⟨rfl, Below.refl _ _⟩
theorem pTake_none (p g f : Nat) (gens : List Int) (free : List Bool) (w : World) (h : PoolIs w p g f gens free) (hn : true ∉ free) :
    Calls Tryz.prog 60 #[.pointer (some ⟨p, 0, none⟩)] w fun e w' => e = .returned (.tuple #[.agg #[.int .i64 0, .int .u64 0], .bool false]) ∧ Below w.heap.size w w' := by
  have h2 := h.cells.2.2.1
  have hp : p < w.heap.size := block_lt_of_cell h2
  rw [List.count_eq_zero.2 hn] at h2
  clear h
  go_enter Tryz.func60, Tryz.ntmps60
  go_wp2
  exact bodyPost_ret (v := .tuple #[.agg #[.int .i64 0, .int .u64 0], .bool false]) (by simp [results, Tryz.results60, go_sem]) rfl ⟨rfl, ((Below.refl _ _).alloc (Nat.le_refl _) _)⟩
theorem pTake_nil (w : World) :
    Calls Tryz.prog 60 #[.pointer none] w fun e w' => e = .returned (.tuple #[.agg #[.int .i64 0, .int .u64 0], .bool false]) ∧ Below w.heap.size w w' := by
  go_enter Tryz.func60, Tryz.ntmps60
  go_wp2
  exact bodyPost_ret (v := .tuple #[.agg #[.int .i64 0, .int .u64 0], .bool false]) (by simp [results, Tryz.results60, go_sem]) rfl ⟨rfl, ((Below.refl _ _).alloc (Nat.le_refl _) _)⟩
theorem PoolIs.upd {S : List Nat} {w w' : World} {p g f : Nat} {gens : List Int} {free : List Bool} (h : PoolIs w p g f gens free) (hu : Upd S w w') (hp : p ∉ S) (hg : g ∉ S) (hf : f ∉ S) : PoolIs w' p g f gens free := by
  obtain ⟨a, b, c, d, e, h1, h2, h3⟩ := h
  exact ⟨a, b, c, d, e, hu.heap h1 hp, hu.heap h2 hg, hu.heap h3 hf⟩
theorem PoolIs.below {w w' : World} {p g f : Nat} {gens : List Int} {free : List Bool} (h : PoolIs w p g f gens free) (hb : Below w.heap.size w w') : PoolIs w' p g f gens free :=
  h.upd (Upd.of_below (S := []) hb) (by simp) (by simp) (by simp)
theorem count_set_false (free : List Bool) (i : Nat) (hi : i < free.length) (ht : free[i]? = some true) : ((free.set i false).count true : Int) = (free.count true : Int) - 1 := by
  have this := List.count_set (a := false) (b := true) (l := free) hi
  rw [List.getElem?_eq_getElem hi] at ht
  simp only [Option.some.injEq] at ht
  have h1 : 0 < free.count true := List.count_pos_iff.2 (by rw [← ht]; exact List.getElem_mem hi)
  rw [ht] at this
  simp only [beq_self_eq_true, if_true, show (false == true) = false from rfl, Bool.false_eq_true, if_false] at this
  omega
theorem pTake_some (p g f : Nat) (gens : List Int) (free : List Bool) (w : World) (h : PoolIs w p g f gens free) (hn : true ∈ free) :
    Calls Tryz.prog 60 #[.pointer (some ⟨p, 0, none⟩)] w fun e w' => e = .returned (.tuple #[.agg #[.int .i64 (free.idxOf true), .int .u64 (gens.getD (free.idxOf true) 0)], .bool true]) ∧ Upd [p, f] w w' ∧ PoolIs w' p g f gens (free.set (free.idxOf true) false) := by
  obtain ⟨c0, c1, c2, f2, cg, cf, fg, ff⟩ := h.cells
  obtain ⟨hl1, hl2, n1, n2, n3, b1, b2, b3⟩ := h
  have hp : p < w.heap.size := heap_lt b1
  have hg : g < w.heap.size := heap_lt b2
  have hf : f < w.heap.size := heap_lt b3
  have hlt : free.idxOf true < free.length := List.idxOf_lt_length_of_mem hn
  have hit : free[free.idxOf true]? = some true := by rw [List.getElem?_eq_getElem hlt]; simp
  have hcnt := count_set_false free _ hlt hit
  have hpos : 0 < free.count true := List.count_pos_iff.2 hn
  have hz : (((free.count true : Nat) : Int) == 0) = false := by rw [beq_eq_false_iff_ne]; omega
  have hbd : free.count true ≤ free.length := List.count_le_length
  have cg' := cg (free.idxOf true)
  rw [List.getElem?_eq_getElem (by omega), Option.map_some] at cg'
  have hgd : gens.getD (free.idxOf true) 0 = gens[free.idxOf true]'(by omega) := by simp [List.getD, List.getElem?_eq_getElem (show free.idxOf true < gens.length by omega)]
  rw [← hgd] at cg'
  have cf' := cf (free.idxOf true)
  rw [hit, Option.map_some] at cf'
  have fg' := fg (free.idxOf true)
  have ff' := ff (free.idxOf true)
  have n1' : ¬ g = p := fun h => n1 h.symm
  have n2' : ¬ f = p := fun h => n2 h.symm
  have n3' : ¬ f = g := fun h => n3 h.symm
  clear cg cf fg ff hit hgd
  have H1 := Lib.hid b1
  have H2 := Lib.hid b2
  have H3 := Lib.hid b3
  have HI := fun (W : World) (hW : W.heap[f]? = some (.cells (free.map fun x => Value.bool x).toArray 4)) => index_any f free free.length 4 W hl2 hW hn
  have HC := Lib.hid hcnt
  replace HI := Lib.hid HI
  generalize gens.getD (free.idxOf true) 0 = gv at *
  generalize free.idxOf true = i at *
  clear b1 b2 b3 hcnt
  go_enter Tryz.func60, Tryz.ntmps60
  go_wp2_with fail
  refine (HI.out _ ?_).mono ?_
  · exact heap_alloc_old _ H3.out
  rintro e w' ⟨rfl, rfl⟩
  go_wp2_with fail
  refine bodyPost_ret (v := .tuple #[.agg #[.int .i64 i, .int .u64 gv], .bool true]) (by simp [results, Tryz.results60, go_sem]) rfl ⟨rfl, ?_, ?_⟩
  · exact (((Upd.refl _ _).setCell (by simp) _).setCell (by simp) _).alloc _
  · have e1 : (((w.setCell { block := f, off := i } (Value.bool false)).setCell { block := p, off := 2 } (Value.int IntKind.i64 (↑(List.count true free) - 1))).alloc (Obj.cells #[Value.int IntKind.i64 ↑i, Value.int IntKind.u64 gv] 77)).heap[f]? = some (.cells ((free.map fun x => Value.bool x).toArray.setIfInBounds i (Value.bool false)) 4) := by
      refine heap_alloc_old _ ?_
      rw [heap_set_other _ _ (by simpa using n2')]
      exact heap_set_same H3.out _ _
    have e2 : (((w.setCell { block := f, off := i } (Value.bool false)).setCell { block := p, off := 2 } (Value.int IntKind.i64 (↑(List.count true free) - 1))).alloc (Obj.cells #[Value.int IntKind.i64 ↑i, Value.int IntKind.u64 gv] 77)).heap[g]? = some (.cells (gens.map fun x => Value.int .u64 x).toArray 70) := by
      refine heap_alloc_old _ ?_
      rw [heap_set_other _ _ (by simpa using n1'), heap_set_other _ _ (by simpa using n3)]
      exact H2.out
    have hpf : (w.setCell { block := f, off := i } (Value.bool false)).heap[p]? = some (.cells #[.slice (some ⟨g, 0, none⟩) free.length free.length, .slice (some ⟨f, 0, none⟩) free.length free.length, .int .i64 ((free.count true : Nat) : Int)] 69) := by
      rw [heap_set_other _ _ (by simpa using n2)]
      exact H1.out
    have e3 := heap_alloc_old (Obj.cells #[Value.int IntKind.i64 ↑i, Value.int IntKind.u64 gv] 77) (heap_set_same hpf 2 (Value.int IntKind.i64 (↑(List.count true free) - 1)))
    refine ⟨by simpa using hl1, by simpa using hl2, n1, n2, n3, ?_, e2, ?_⟩
    · rw [e3, HC.out]
      simp
    · rw [e1]
      simp
theorem pGive_any (p g f : Nat) (gens : List Int) (free : List Bool) (i : Nat) (w : World) (h : PoolIs w p g f gens free) (hi : free[i]? = some false) :
    Calls Tryz.prog 64 #[.pointer (some ⟨p, 0, none⟩), .int .i64 i] w fun e w' => e = .returned (.tuple #[]) ∧ Upd [p, g, f] w w' ∧ PoolIs w' p g f (gens.set i (IntKind.u64.wrap (gens.getD i 0 + 1))) (free.set i true) := by
  obtain ⟨c0, c1, c2, f2, cg, cf, fg, ff⟩ := h.cells
  obtain ⟨hl1, hl2, n1, n2, n3, b1, b2, b3⟩ := h
  have hlt : i < free.length := by
    rcases Nat.lt_or_ge i free.length with h1 | h1
    · exact h1
    · rw [List.getElem?_eq_none h1] at hi; cases hi
  have hcnt : ((free.set i true).count true : Int) = (free.count true : Int) + 1 := by
    have := List.count_set (a := true) (b := true) (l := free) hlt
    rw [List.getElem?_eq_getElem hlt] at hi
    simp at hi this
    rw [hi] at this
    simp at this
    omega
  have hbd : free.count true ≤ free.length := List.count_le_length
  have cg' := cg i
  rw [List.getElem?_eq_getElem (by omega), Option.map_some] at cg'
  have hgd : gens.getD i 0 = gens[i]'(by omega) := by simp [List.getD, List.getElem?_eq_getElem (show i < gens.length by omega)]
  rw [← hgd] at cg'
  have cf' := cf i
  rw [hi, Option.map_some] at cf'
  have fg' := fg i
  have ff' := ff i
  have n1' : ¬ g = p := fun h => n1 h.symm
  have n2' : ¬ f = p := fun h => n2 h.symm
  have n3' : ¬ f = g := fun h => n3 h.symm
  clear cg cf fg ff hi hgd
  have H1 := Lib.hid b1
  have H2 := Lib.hid b2
  have H3 := Lib.hid b3
  have HC := Lib.hid hcnt
  clear b1 b2 b3 hcnt
  generalize gens.getD i 0 = gv at *
  go_enter Tryz.func64, Tryz.ntmps64
  go_wp2
  go_end0
  refine ⟨rfl, ?_, ?_⟩
  · exact (((Upd.refl _ _).setCell (by simp) _).setCell (by simp) _).setCell (by simp) _
  · have hgf : (w.setCell { block := f, off := i } (Value.bool true)).heap[g]? = some (.cells (gens.map fun x => Value.int .u64 x).toArray 70) := by
      rw [heap_set_other _ _ (by simpa using n3)]; exact H2.out
    have hpf : ((w.setCell { block := f, off := i } (Value.bool true)).setCell { block := g, off := i } (Value.int IntKind.u64 (IntKind.u64.wrap (gv + 1)))).heap[p]? = some (.cells #[.slice (some ⟨g, 0, none⟩) free.length free.length, .slice (some ⟨f, 0, none⟩) free.length free.length, .int .i64 ((free.count true : Nat) : Int)] 69) := by
      rw [heap_set_other _ _ (by simpa using n1), heap_set_other _ _ (by simpa using n2)]; exact H1.out
    have e3 := heap_set_same hpf 2 (Value.int IntKind.i64 (↑(List.count true free) + 1))
    have e2 := heap_set_same hgf i (Value.int IntKind.u64 (IntKind.u64.wrap (gv + 1)))
    have e1 := heap_set_same H3.out i (Value.bool true)
    refine ⟨by simpa using hl1, by simpa using hl2, n1, n2, n3, ?_, ?_, ?_⟩
    · rw [e3, HC.out]
      simp
    · rw [heap_set_other _ _ (by simpa using n1'), e2]
      simp
    · rw [heap_set_other _ _ (by simpa using n2'), heap_set_other _ _ (by simpa using n3'), e1]
      simp
theorem arNewPool_bad (n : Int) (w : World) (h : n < 1 ∨ 4096 < n) :
    Calls Tryz.prog 7 #[.int .i64 n] w fun e w' => e = .returned (.tuple #[.pointer none, .int .i64 1]) ∧ Below w.heap.size w w' := by
  rcases h with h | h
  · go_enter Tryz.func7, Tryz.ntmps7
    go_wp2
    go_ret2
    exact ⟨rfl, Below.refl _ _⟩
  · have h' : ¬ n < 1 := by omega
    go_enter Tryz.func7, Tryz.ntmps7
    go_wp2
    go_ret2
    exact ⟨rfl, Below.refl _ _⟩
/-- What a row of n numbers holds when the first k are set. -/
def part {α : Type} (n k : Nat) (a b : α) : List α := List.replicate k a ++ List.replicate (n - k) b
theorem part_set {α : Type} (n k : Nat) (a b : α) (h : k < n) : (part n k a b).set k a = part n (k + 1) a b := by
  unfold part
  rw [show n - k = (n - (k + 1)) + 1 by omega, List.replicate_succ, List.set_append_right _ _ (by simp)]
  simp [List.replicate_succ', List.append_assoc]
theorem madeCells_part {α : Type} (n : Nat) (a b : α) (F : α → Value) : (madeCells #[F b] n) = ((part n 0 a b).map F).toArray := by
  unfold madeCells part
  apply Array.ext_getElem?
  intro i
  by_cases h : i < n
  · simp [h, Nat.mod_one]
  · simp [h]
/-- The loop of NewPool. -/
theorem part_get {α : Type} (n k : Nat) (a b : α) (h : k < n) : (part n k a b)[k]? = some b := by
  unfold part
  rw [List.getElem?_append_right (by simp)]
  simp [List.getElem?_replicate]
  omega
theorem arNewPool_some (n : Nat) (w : World) (h0 : 1 ≤ n) (h1 : n ≤ 4096) :
    Calls Tryz.prog 7 #[.int .i64 n] w fun e w' => ∃ p g f, e = .returned (.tuple #[.pointer (some ⟨p, 0, none⟩), .int .i64 0]) ∧ Below w.heap.size w w' ∧ w.heap.size ≤ p ∧ w.heap.size ≤ g ∧ w.heap.size ≤ f ∧
      PoolIs w' p g f (List.replicate n 1) (List.replicate n true) := by
  have hm1 := fun W => run_make_row' (P := Tryz.prog) 66 70 (.int .u64 0) 8 Tryz.underlying66 (by kernel_rfl) rfl .i64 .i64 n (by omega) (by omega) W
  have hm2 := fun W => run_make_row' (P := Tryz.prog) 67 4 (.bool false) 1 Tryz.underlying67 (by kernel_rfl) rfl .i64 .i64 n (by omega) (by omega) W
  rw [madeCells_part n 1 0 (fun x => Value.int .u64 x)] at hm1
  rw [madeCells_part n true false (fun x => Value.bool x)] at hm2
  have h2 : decide ((n : Int) < 1) = false := by simp; omega
  have h3 : decide (4096 < (n : Int)) = false := by simp; omega
  go_enter Tryz.func7, Tryz.ntmps7
  go_wp2
  go_region
  · have e1 := heap_alloc_old (.cells #[.slice (some ⟨w.heap.size, 0, none⟩) n n, .slice (some ⟨w.heap.size + 1, 0, none⟩) n n, .int .i64 n] 69) (heap_alloc_old (.cells ((part n 0 true false).map fun x => Value.bool x).toArray 4) (heap_alloc_new w (.cells ((part n 0 (1 : Int) 0).map fun x => Value.int .u64 x).toArray 70)))
    have e2 := heap_alloc_old (.cells #[.slice (some ⟨w.heap.size, 0, none⟩) n n, .slice (some ⟨w.heap.size + 1, 0, none⟩) n n, .int .i64 n] 69) (heap_alloc_new (w.alloc (.cells ((part n 0 (1 : Int) 0).map fun x => Value.int .u64 x).toArray 70)) (.cells ((part n 0 true false).map fun x => Value.bool x).toArray 4))
    have e3 := heap_alloc_new ((w.alloc (.cells ((part n 0 (1 : Int) 0).map fun x => Value.int .u64 x).toArray 70)).alloc (.cells ((part n 0 true false).map fun x => Value.bool x).toArray 4)) (.cells #[.slice (some ⟨w.heap.size, 0, none⟩) n n, .slice (some ⟨w.heap.size + 1, 0, none⟩) n n, .int .i64 n] 69)
    simp only [World.size_alloc] at e2 e3
    have hB : Below w.heap.size w (((w.alloc (.cells ((part n 0 (1 : Int) 0).map fun x => Value.int .u64 x).toArray 70)).alloc (.cells ((part n 0 true false).map fun x => Value.bool x).toArray 4)).alloc (.cells #[.slice (some ⟨w.heap.size, 0, none⟩) n n, .slice (some ⟨w.heap.size + 1, 0, none⟩) n n, .int .i64 n] 69)).drew := ((((Below.refl _ _).alloc (Nat.le_refl _) _).alloc (by simp) _).alloc (by simp; omega) _).drew
    replace e1 : (((w.alloc (.cells ((part n 0 (1 : Int) 0).map fun x => Value.int .u64 x).toArray 70)).alloc (.cells ((part n 0 true false).map fun x => Value.bool x).toArray 4)).alloc (.cells #[.slice (some ⟨w.heap.size, 0, none⟩) n n, .slice (some ⟨w.heap.size + 1, 0, none⟩) n n, .int .i64 n] 69)).drew.heap[w.heap.size]? = _ := e1
    replace e2 : (((w.alloc (.cells ((part n 0 (1 : Int) 0).map fun x => Value.int .u64 x).toArray 70)).alloc (.cells ((part n 0 true false).map fun x => Value.bool x).toArray 4)).alloc (.cells #[.slice (some ⟨w.heap.size, 0, none⟩) n n, .slice (some ⟨w.heap.size + 1, 0, none⟩) n n, .int .i64 n] 69)).drew.heap[w.heap.size + 1]? = _ := e2
    replace e3 : (((w.alloc (.cells ((part n 0 (1 : Int) 0).map fun x => Value.int .u64 x).toArray 70)).alloc (.cells ((part n 0 true false).map fun x => Value.bool x).toArray 4)).alloc (.cells #[.slice (some ⟨w.heap.size, 0, none⟩) n n, .slice (some ⟨w.heap.size + 1, 0, none⟩) n n, .int .i64 n] 69)).drew.heap[w.heap.size + 1 + 1]? = _ := e3
    generalize (((w.alloc (.cells ((part n 0 (1 : Int) 0).map fun x => Value.int .u64 x).toArray 70)).alloc (.cells ((part n 0 true false).map fun x => Value.bool x).toArray 4)).alloc (.cells #[.slice (some ⟨w.heap.size, 0, none⟩) n n, .slice (some ⟨w.heap.size + 1, 0, none⟩) n n, .int .i64 n] 69)).drew = w4 at *
    go_wp2_with fail
    go_loopw [20] (fun i wr => ∃ k : Nat, k ≤ n ∧ i = .int .i64 k ∧ Below w.heap.size w wr ∧ wr.heap[w.heap.size + 1 + 1]? = some (.cells #[.slice (some ⟨w.heap.size, 0, none⟩) n n, .slice (some ⟨w.heap.size + 1, 0, none⟩) n n, .int .i64 n] 69) ∧ wr.heap[w.heap.size]? = some (.cells ((part n k (1 : Int) 0).map fun x => Value.int .u64 x).toArray 70) ∧ wr.heap[w.heap.size + 1]? = some (.cells ((part n k true false).map fun x => Value.bool x).toArray 4)) (fun i _ => n - (intOf i).toNat)
    case atStart => exact ⟨0, Nat.zero_le _, rfl, hB, e3, e1, e2⟩
    case round =>
      obtain ⟨k, hk, rfl, hBr, q1, q2, q3⟩ := hrel
      clear e1 e2 e3 hB hm1 hm2
      by_cases hlt : k < n
      · have c0 : wr.cell? ⟨w.heap.size + 1 + 1, 0, none⟩ = some (.slice (some ⟨w.heap.size, 0, none⟩) n n) := by rw [cell_of_heap q1]; rfl
        have c1 : wr.cell? ⟨w.heap.size + 1 + 1, 1, none⟩ = some (.slice (some ⟨w.heap.size + 1, 0, none⟩) n n) := by rw [cell_of_heap q1]; rfl
        have c2 : wr.cell? ⟨w.heap.size, k, none⟩ = some (.int .u64 0) := by rw [cell_of_heap q2]; simp [part_get n k (1 : Int) 0 hlt]
        have c3 : wr.cell? ⟨w.heap.size + 1, k, none⟩ = some (.bool false) := by rw [cell_of_heap q3]; simp [part_get n k true false hlt]
        have f2 := frozen_of_heap q2 k
        have f3 := frozen_of_heap q3 k
        have H1 := Lib.hid q1
        have H2 := Lib.hid q2
        have H3 := Lib.hid q3
        clear q1 q2 q3
        go_wp2
        go_roundw
        case rel =>
          refine ⟨k + 1, by omega, by go_num, (hBr.setCell (by simp) _).setCell (by simp) _, ?_, ?_, ?_⟩
          · rw [heap_set_other _ _ (by dsimp only; omega), heap_set_other _ _ (by dsimp only; omega)]; exact H1.out
          · rw [heap_set_other _ _ (by dsimp only; omega), heap_set_same H2.out, ← part_set n k (1 : Int) 0 hlt]; simp
          · have := heap_set_same (w := wr.setCell { block := w.heap.size, off := k } (Value.int IntKind.u64 1)) (b := w.heap.size + 1) (c := ((part n k true false).map fun x => Value.bool x).toArray) (t := 4) (fr := (0, 0)) (by rw [heap_set_other _ _ (by dsimp only; omega)]; exact H3.out) k (.bool true)
            rw [this, ← part_set n k true false hlt]; simp
        case measure => simp [intOf]; omega
      · obtain rfl : k = n := by omega
        have H1 := Lib.hid q1
        have H2 := Lib.hid q2
        have H3 := Lib.hid q3
        clear q1 q2 q3
        go_wp2
        go_ret2
        refine ⟨w.heap.size + 1 + 1, w.heap.size, w.heap.size + 1, rfl, hBr, by omega, by omega, by omega, by simp, by simpa using h1, by omega, by omega, by omega, ?_, ?_, ?_⟩
        · rw [H1.out]; simp
        · rw [H2.out]; simp [part]
        · rw [H3.out]; simp [part]
  · have e1 := heap_alloc_old (.cells #[.slice (some ⟨w.heap.size + 1, 0, none⟩) n n, .slice (some ⟨w.heap.size, 0, none⟩) n n, .int .i64 n] 69) (heap_alloc_old (.cells ((part n 0 (1 : Int) 0).map fun x => Value.int .u64 x).toArray 70) (heap_alloc_new w (.cells ((part n 0 true false).map fun x => Value.bool x).toArray 4)))
    have e2 := heap_alloc_old (.cells #[.slice (some ⟨w.heap.size + 1, 0, none⟩) n n, .slice (some ⟨w.heap.size, 0, none⟩) n n, .int .i64 n] 69) (heap_alloc_new (w.alloc (.cells ((part n 0 true false).map fun x => Value.bool x).toArray 4)) (.cells ((part n 0 (1 : Int) 0).map fun x => Value.int .u64 x).toArray 70))
    have e3 := heap_alloc_new ((w.alloc (.cells ((part n 0 true false).map fun x => Value.bool x).toArray 4)).alloc (.cells ((part n 0 (1 : Int) 0).map fun x => Value.int .u64 x).toArray 70)) (.cells #[.slice (some ⟨w.heap.size + 1, 0, none⟩) n n, .slice (some ⟨w.heap.size, 0, none⟩) n n, .int .i64 n] 69)
    simp only [World.size_alloc] at e2 e3
    have hB : Below w.heap.size w (((w.alloc (.cells ((part n 0 true false).map fun x => Value.bool x).toArray 4)).alloc (.cells ((part n 0 (1 : Int) 0).map fun x => Value.int .u64 x).toArray 70)).alloc (.cells #[.slice (some ⟨w.heap.size + 1, 0, none⟩) n n, .slice (some ⟨w.heap.size, 0, none⟩) n n, .int .i64 n] 69)).drew := ((((Below.refl _ _).alloc (Nat.le_refl _) _).alloc (by simp) _).alloc (by simp; omega) _).drew
    replace e1 : (((w.alloc (.cells ((part n 0 true false).map fun x => Value.bool x).toArray 4)).alloc (.cells ((part n 0 (1 : Int) 0).map fun x => Value.int .u64 x).toArray 70)).alloc (.cells #[.slice (some ⟨w.heap.size + 1, 0, none⟩) n n, .slice (some ⟨w.heap.size, 0, none⟩) n n, .int .i64 n] 69)).drew.heap[w.heap.size]? = _ := e1
    replace e2 : (((w.alloc (.cells ((part n 0 true false).map fun x => Value.bool x).toArray 4)).alloc (.cells ((part n 0 (1 : Int) 0).map fun x => Value.int .u64 x).toArray 70)).alloc (.cells #[.slice (some ⟨w.heap.size + 1, 0, none⟩) n n, .slice (some ⟨w.heap.size, 0, none⟩) n n, .int .i64 n] 69)).drew.heap[w.heap.size + 1]? = _ := e2
    replace e3 : (((w.alloc (.cells ((part n 0 true false).map fun x => Value.bool x).toArray 4)).alloc (.cells ((part n 0 (1 : Int) 0).map fun x => Value.int .u64 x).toArray 70)).alloc (.cells #[.slice (some ⟨w.heap.size + 1, 0, none⟩) n n, .slice (some ⟨w.heap.size, 0, none⟩) n n, .int .i64 n] 69)).drew.heap[w.heap.size + 1 + 1]? = _ := e3
    generalize (((w.alloc (.cells ((part n 0 true false).map fun x => Value.bool x).toArray 4)).alloc (.cells ((part n 0 (1 : Int) 0).map fun x => Value.int .u64 x).toArray 70)).alloc (.cells #[.slice (some ⟨w.heap.size + 1, 0, none⟩) n n, .slice (some ⟨w.heap.size, 0, none⟩) n n, .int .i64 n] 69)).drew = w4 at *
    go_wp2_with fail
    go_loopw [20] (fun i wr => ∃ k : Nat, k ≤ n ∧ i = .int .i64 k ∧ Below w.heap.size w wr ∧ wr.heap[w.heap.size + 1 + 1]? = some (.cells #[.slice (some ⟨w.heap.size + 1, 0, none⟩) n n, .slice (some ⟨w.heap.size, 0, none⟩) n n, .int .i64 n] 69) ∧ wr.heap[w.heap.size + 1]? = some (.cells ((part n k (1 : Int) 0).map fun x => Value.int .u64 x).toArray 70) ∧ wr.heap[w.heap.size]? = some (.cells ((part n k true false).map fun x => Value.bool x).toArray 4)) (fun i _ => n - (intOf i).toNat)
    case atStart => exact ⟨0, Nat.zero_le _, rfl, hB, e3, e2, e1⟩
    case round =>
      obtain ⟨k, hk, rfl, hBr, q1, q2, q3⟩ := hrel
      clear e1 e2 e3 hB hm1 hm2
      by_cases hlt : k < n
      · have c0 : wr.cell? ⟨w.heap.size + 1 + 1, 0, none⟩ = some (.slice (some ⟨w.heap.size + 1, 0, none⟩) n n) := by rw [cell_of_heap q1]; rfl
        have c1 : wr.cell? ⟨w.heap.size + 1 + 1, 1, none⟩ = some (.slice (some ⟨w.heap.size, 0, none⟩) n n) := by rw [cell_of_heap q1]; rfl
        have c2 : wr.cell? ⟨w.heap.size + 1, k, none⟩ = some (.int .u64 0) := by rw [cell_of_heap q2]; simp [part_get n k (1 : Int) 0 hlt]
        have c3 : wr.cell? ⟨w.heap.size, k, none⟩ = some (.bool false) := by rw [cell_of_heap q3]; simp [part_get n k true false hlt]
        have f2 := frozen_of_heap q2 k
        have f3 := frozen_of_heap q3 k
        have H1 := Lib.hid q1
        have H2 := Lib.hid q2
        have H3 := Lib.hid q3
        clear q1 q2 q3
        go_wp2
        go_roundw
        case rel =>
          refine ⟨k + 1, by omega, by go_num, (hBr.setCell (by simp) _).setCell (by simp) _, ?_, ?_, ?_⟩
          · rw [heap_set_other _ _ (by dsimp only; omega), heap_set_other _ _ (by dsimp only; omega)]; exact H1.out
          · rw [heap_set_other _ _ (by dsimp only; omega), heap_set_same H2.out, ← part_set n k (1 : Int) 0 hlt]; simp
          · have := heap_set_same (w := wr.setCell { block := w.heap.size + 1, off := k } (Value.int IntKind.u64 1)) (b := w.heap.size) (c := ((part n k true false).map fun x => Value.bool x).toArray) (t := 4) (fr := (0, 0)) (by rw [heap_set_other _ _ (by dsimp only; omega)]; exact H3.out) k (.bool true)
            rw [this, ← part_set n k true false hlt]; simp
        case measure => simp [intOf]; omega
      · obtain rfl : k = n := by omega
        have H1 := Lib.hid q1
        have H2 := Lib.hid q2
        have H3 := Lib.hid q3
        clear q1 q2 q3
        go_wp2
        go_ret2
        refine ⟨w.heap.size + 1 + 1, w.heap.size + 1, w.heap.size, rfl, hBr, by omega, by omega, by omega, by simp, by simpa using h1, by omega, by omega, by omega, ?_, ?_, ?_⟩
        · rw [H1.out]; simp
        · rw [H2.out]; simp [part]
        · rw [H3.out]; simp [part]
end Go.Proofs.YtmhlokomlngdmaaGreat
