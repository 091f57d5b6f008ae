/- slices.Insert of one element, at one type of slices: a row of the call's own with one element more. -/
import Derived.Test.YtmhlokomlngdmaaGreatCopyK
import Derived.Test.YtmhlokomlngdmaaGreatChecked
import Derived.StillTailTactics
import Derived.WalkLawsBesides
import Derived.WalkSpells
import Derived.Outline
import Derived.BigQuiet
import Derived.WalkSmall
import Derived.RegionTactic
import Derived.IntWalk
namespace Go.Proofs.YtmhlokomlngdmaaGreat
open Go.RowKit
namespace InHd
theorem info : ∃ i0 : TypeInfo, Tryz.prog.info? 77 = some i0 ∧ i0.zero = some (.agg #[.int .i64 0, .int .u64 0]) ∧ i0.size = 2 ∧ i0.bytes = 16 := info_parts (show (Tryz.prog.info? 77).map (fun i => (i.zero, i.size, i.bytes)) = some (some (.agg #[.int .i64 0, .int .u64 0]), 2, 16) by kernel_rfl)
theorem size_is : (Tryz.prog.info? 77).map (·.size) = some 2 := by kernel_rfl
def InsEnd {α : Type} (f : α → List Value) (base : Nat) (v : Value) (L : List α) (w : World) (x : Ending) (w' : World) : Prop :=
  ∃ a c, x = .returned (.slice a L.length c) ∧ Row base 77 2 f w' (.slice a L.length c) L ∧ Upd v.ownBlock.toList w w' ∧ ((Value.slice a L.length c).ownBlock = v.ownBlock ∨ (Value.slice a L.length c).ownBlock = some w.heap.size)
variable {α : Type} (f : α → List Value) (base : Nat) (a : Option Addr) (c : Nat) (L : List α) (x : α) (vb : Nat) (w : World)

set_option maxRecDepth 100000 in
theorem insert_end (h : Row base 77 2 f w (.slice a L.length c) L) (hv : w.heap[vb]? = some (.cells (f x).toArray 77)) (hbase : base ≤ w.heap.size) (hlen : L.length ≤ 100000) :
    Calls Tryz.prog 127 #[.slice a L.length c, .int .i64 L.length, .slice (some ⟨vb, 0, none⟩) 1 1] w (InsEnd f base (.slice a L.length c) (L ++ [x]) w) := by
  obtain ⟨i0, hi0, hz0, hz1, hz2⟩ := info
  have hcl : (L.length : Int) ≤ 9223372036854775807 := by omega
  have hS : SrcOf w (.slice (some ⟨vb, 0, none⟩) 1 1) [x].length 2 ([x].flatMap f) := by
    refine ⟨by simp [h.1], by simpa using h.2.1 x, .inr ⟨_, _, rfl, fun j y hj => ?_⟩⟩
    rw [Addr.add_lit, Nat.zero_add, cell_of_heap hv]
    simpa using hj
  have hm : L.length + [x].length ≤ maxLen := by unfold maxLen; simp; omega
  have hby : (L.length + [x].length) * 16 ≤ 140737488355328 := by simp; omega
  have hc0 : L.length ≤ c := by
    rcases h.cases with ⟨h1, rfl⟩ | ⟨b, cap, h1, _, _, _, h5, _⟩
    · exact Nat.zero_le _
    · injection h1 with _ _ h3
      omega
  have hc63 : c ≤ 9223372036854775807 := by
    rcases h.cases with ⟨h1, rfl⟩ | ⟨b, cap, h1, _, _, _, h5, h6, _⟩
    · injection h1 with _ _ h3
      omega
    · injection h1 with _ _ h3
      unfold maxLen at h6
      omega
  replace hS := Lib.hid hS
  replace h := Lib.hid h
  replace hm := Lib.hid hm
  replace hby := Lib.hid hby
  replace hbase := Lib.hid hbase
  go_enter Tryz.func127, Tryz.ntmps127
  go_wp2_with (at_builtin; refine wpList_append_row (f := f) (M := [x]) _ rfl _ _ 42 rfl base 77 i0 (.agg #[.int .i64 0, .int .u64 0]) 2 16 Tryz.underlying42 hi0 hz0 hz1 hz2 rfl (by decide) (.slice a L.length c) L rfl h.out (.slice (some ⟨vb, 0, none⟩) 1 1) rfl hS.out hm.out hby.out hbase.out ?_; intro a' c' w1 hrow hu hat; replace hrow := Lib.hid hrow; replace hu := Lib.hid hu; replace hat := Lib.hid hat)
  all_goals
    go_ret
    try (have hcc : c = L.length := by assumption
         subst hcc)
    have hrow' := hrow.out
    have hu' := hu.out
    have hat' := hat.out
    simp only [List.length_singleton] at hrow' hat'
    refine ⟨a', c', ?_, ?_, hu', ?_⟩
    · simp
    · simpa using hrow'
    · simpa using hat'
set_option maxRecDepth 100000 in
/-- Ahead of an element, where there is room. -/
theorem insert_room (h : Row base 77 2 f w (.slice a L.length c) L) (hv : w.heap[vb]? = some (.cells (f x).toArray 77)) (hlen : L.length ≤ 100000) (i : Nat) (hi : i < L.length) (hroom : L.length + 1 ≤ c)
    (hne : ∀ b, (Value.slice a L.length c).ownBlock = some b → b ≠ vb) :
    Calls Tryz.prog 127 #[.slice a L.length c, .int .i64 i, .slice (some ⟨vb, 0, none⟩) 1 1] w (InsEnd f base (.slice a L.length c) (L.insertIdx i x) w) := by
  obtain ⟨hf, h1, hl0, ⟨e, e2⟩ | ⟨g, cap, cur, e, q1, q2, q3, q4, q5, q6⟩⟩ := h
  · omega
  injection e with e _ e3
  subst e e3
  have hgv : g ≠ vb := hne g rfl
  have hgl := heap_lt q2
  have hfx := hf x
  have hF := flat_len hf L
  have hFb : ((L.drop i).flatMap f).length = (L.length - i) * 2 := by rw [flat_len hf, List.length_drop]
  have hcap63 : c ≤ 9223372036854775807 := by unfold maxLen at q4; omega
  have hsz : cur.size = c * 2 := q5
  have hparts : L.flatMap f = (L.take i).flatMap f ++ (L.drop i).flatMap f := by rw [← List.flatMap_append, List.take_append_drop]
  have hFa : ((L.take i).flatMap f).length = i * 2 := by rw [flat_len hf, List.length_take, Nat.min_eq_left (by omega)]
  have hcurget : ∀ j y, j < L.length * 2 → (L.flatMap f)[j]? = some y → cur[j]? = some y := fun j y hj hy => by
    rw [← q6] at hy
    rw [List.getElem?_take, if_pos hj] at hy
    simpa using hy
  obtain ⟨cur1, hcur1⟩ : ∃ cur1, cur1 = (cur.toList.take ((i + 1) * 2) ++ (L.drop i).flatMap f ++ cur.toList.drop (((i + 1) * 2) + ((L.drop i).flatMap f).length)).toArray := ⟨_, rfl⟩
  obtain ⟨cur2, hcur2⟩ : ∃ cur2, cur2 = (cur1.toList.take (i * 2) ++ f x ++ cur1.toList.drop ((i * 2) + (f x).length)).toArray := ⟨_, rfl⟩
  have hs1 : cur1.size = c * 2 := by
    rw [hcur1]
    simp only [List.size_toArray, List.length_append, List.length_take, List.length_drop, Array.length_toList, hFb, hsz]
    omega
  have hs2 : cur2.size = c * 2 := by
    rw [hcur2]
    simp only [List.size_toArray, List.length_append, List.length_take, List.length_drop, Array.length_toList, hfx, hs1]
    omega
  have hcp1 : ∀ ty dc sc, (Builtin.copy_ #[42, 42] ty #[.slice (some ⟨g, ((i + 1) * 2), none⟩) (L.length - i) dc, .slice (some ⟨g, (i * 2), none⟩) (L.length + 1 - i) sc]).run Tryz.prog w.drew = .ok (goInt (Nat.min (L.length + 1 - i) (L.length - i))) (w.drew.setRow g cur1) := fun ty dc sc => by
    rw [hcur1]
    refine run_copy_rowk w.drew _ _ ty 77 2 g _ _ _ ⟨g, (i * 2), none⟩ _ _ cur 77 _ Tryz.underlying42 size_is q2 (by rw [hFb]; congr 1; simp only [Nat.min_def]; split <;> omega) (fun j y hj => ?_) (by rw [hFb, hsz]; omega) (flat_one h1 _)
    have hjl := (List.getElem?_eq_some_iff.1 hj).1
    rw [hFb] at hjl
    rw [Addr.add_lit]
    show w.cell? _ = _
    rw [cell_of_heap q2]
    refine hcurget _ _ (by omega) ?_
    rw [hparts, List.getElem?_append_right (by rw [hFa]; omega), hFa]
    rw [← hj]
    congr 1
    omega
  have hcp2 : ∀ W : World, W.heap[g]? = some (.cells cur1 77) → (∀ j, W.cell? ⟨vb, j, none⟩ = w.cell? ⟨vb, j, none⟩) → ∀ ty dc, (Builtin.copy_ #[42, 42] ty #[.slice (some ⟨g, (i * 2), none⟩) (L.length + 1 - i) dc, .slice (some ⟨vb, 0, none⟩) 1 1]).run Tryz.prog W = .ok (goInt (Nat.min 1 (L.length + 1 - i))) (W.setRow g cur2) := fun W hW hWv ty dc => by
    rw [hcur2]
    refine run_copy_rowk W _ _ ty 77 2 g _ _ _ ⟨vb, 0, none⟩ _ _ cur1 77 _ Tryz.underlying42 size_is hW (by rw [hfx]; simp only [Nat.min_def]; split <;> omega) (fun j y hj => ?_) (by rw [hfx, hs1]; omega) (h1 x)
    rw [Addr.add_lit, Nat.zero_add, hWv, cell_of_heap hv]
    simpa using hj
  have hov : ∀ lb cb, (callFunc 132 #[.slice (some ⟨vb, 0, none⟩) 1 1, .slice (some ⟨g, ((i + 1) * 2), none⟩) lb cb]).run Tryz.prog w = .ok (.value (.bool false)) w := fun lb cb => by
    rw [run_callFunc_extern Tryz.func132 (by kernel_rfl) (by kernel_rfl) (by kernel_rfl) (e := Extern.SlicesOverlaps.overlaps #[42, 42] #[4]) (by kernel_rfl),
      Lib.run_overlaps_apart w 42 4 77 Tryz.underlying42 2 Tryz.sizeOf77 ⟨vb, 0, none⟩ ⟨g, ((i + 1) * 2), none⟩ 1 1 lb cb (Ne.symm hgv) _ _ _ _ (shape_of_heap hv) (shape_of_heap q2) (by rw [hsz]; omega) (frozen_of_heap hv _) (frozen_of_heap hv _)]
    rfl
  have hw1 : IntKind.i64.wrap ((i : Int) + 1) = (i : Int) + 1 := IntWalk.i64_in _ (by omega)
  have hw2 : IntKind.i64.wrap ((L.length : Int) + 1) = (L.length : Int) + 1 := IntWalk.i64_in _ (by omega)
  have g1 : ¬ ((i : Int) = (L.length : Int)) := by omega
  have g2 : (0 : Int) ≤ (i : Int) + 1 := by omega
  have g3 : ((i : Int) + 1).toNat = i + 1 := by omega
  have g4 : ¬ c = i + 1 := by omega
  have g5 : ¬ c = i := by omega
  have g6 : (i : Int) ≤ (L.length : Int) + 1 := by omega
  have g7 : ¬ (c : Int) < (L.length : Int) + 1 := by omega
  have g8 : i ≤ L.length := by omega
  replace hcp2 := Lib.hid hcp2
  replace hcurget := Lib.hid hcurget
  replace hcur1 := Lib.hid hcur1
  replace hcur2 := Lib.hid hcur2
  replace hf := Lib.hid hf
  replace h1 := Lib.hid h1
  go_enter Tryz.func127, Tryz.ntmps127
  go_wp2_with (simp only [hov])
  go_region_law (refine step_copy_is rfl _ _ 42 42 rfl _ _ (by simp [Act.eval, Act.put]) (by simp [Act.eval, Act.put]) (hcp1 _ _ _) ?_)
  have hh1 : (w.drew.setRow g cur1).heap[g]? = some (.cells cur1 77) := setRow_heap _ _ _ _ _ _ q2
  have hh2 : ∀ j, (w.drew.setRow g cur1).cell? ⟨vb, j, none⟩ = w.cell? ⟨vb, j, none⟩ := fun j => World.cell?_of_block (setRow_other w.drew g vb cur1 (Ne.symm hgv))
  have hu1 : Upd [g] w (w.drew.setRow g cur1) := ((Upd.refl _ _).drew).setRow (by simp) _
  generalize w.drew.setRow g cur1 = W1 at *
  replace hh2 := Lib.hid hh2
  replace hcp1 := Lib.hid hcp1
  go_wp2_with fail
  rw [hcp2.out W1 hh1 hh2.out]
  simp only [Result.andThen]
  rw [Oper.upon_value]
  have hh3 : (W1.setRow g cur2).heap[g]? = some (.cells cur2 77) := setRow_heap _ _ _ _ _ _ hh1
  have hu2 : Upd [g] w (W1.setRow g cur2) := hu1.setRow (by simp) _
  generalize W1.setRow g cur2 = W2 at *
  go_wp2_with fail
  go_ret
  have hL : (L.insertIdx i x).length = L.length + 1 := List.length_insertIdx_of_le_length g8 _
  refine ⟨some ⟨g, 0, none⟩, c, by simp [hL], ?_, hu2.mono (by simp [Value.ownBlock]), .inl (by simp [Value.ownBlock])⟩
  refine ⟨hf.out, h1.out, flat_len hf.out _, .inr ⟨g, c, cur2, by rw [hL], q1, hh3, by omega, q4, hs2, ?_⟩⟩
  rw [hL, insert_flat L x i g8, hcur2.out, hcur1.out]
  have hshift := shift_lists (C := cur.toList) (n := L.length * 2) (a1 := (i * 2)) (a2 := ((i + 1) * 2)) (k := 2) (q6.trans hparts) (by omega) (by omega) hfx (by omega) (by omega) (by have : cur.toList.length = cur.size := Array.length_toList; omega)
  rw [show (L.length + 1) * 2 = L.length * 2 + 2 by omega]
  simpa using hshift
theorem zero_size : (.agg #[.int .i64 0, .int .u64 0] : Value).cells.size = 2 := rfl
set_option maxRecDepth 100000 in
/-- Ahead of an element, where there is no room. -/
theorem insert_grow (h : Row base 77 2 f w (.slice a L.length c) L) (hv : w.heap[vb]? = some (.cells (f x).toArray 77)) (hbase : base ≤ w.heap.size) (hlen : L.length ≤ 100000) (i : Nat) (hi : i < L.length) (hroom : c < L.length + 1) :
    Calls Tryz.prog 127 #[.slice a L.length c, .int .i64 i, .slice (some ⟨vb, 0, none⟩) 1 1] w (InsEnd f base (.slice a L.length c) (L.insertIdx i x) w) := by
  obtain ⟨i0, hi0, hz0, hzs, hzb⟩ := info
  obtain ⟨hf, h1, hl0, ⟨e, e2⟩ | ⟨g, cap, cur, e, q1, q2, q3, q4, q5, q6⟩⟩ := h
  · omega
  injection e with e _ e3
  subst e e3
  have hgl := heap_lt q2
  have hvl := heap_lt hv
  have hfx := hf x
  have hF := flat_len hf L
  have hFb : ((L.drop i).flatMap f).length = (L.length - i) * 2 := by rw [flat_len hf, List.length_drop]
  have hcap63 : c ≤ 9223372036854775807 := by unfold maxLen at q4; omega
  have hsz : cur.size = c * 2 := q5
  have hparts : L.flatMap f = (L.take i).flatMap f ++ (L.drop i).flatMap f := by rw [← List.flatMap_append, List.take_append_drop]
  have hFa : ((L.take i).flatMap f).length = i * 2 := by rw [flat_len hf, List.length_take, Nat.min_eq_left (by omega)]
  have hcurget : ∀ j y, j < L.length * 2 → (L.flatMap f)[j]? = some y → cur[j]? = some y := fun j y hj hy => by
    rw [← q6] at hy
    rw [List.getElem?_take, if_pos hj] at hy
    simpa using hy
  have hold : (Builtin.firstCells i0.size i (.slice (some ⟨g, 0, none⟩) i c)).run Tryz.prog w.drew = .ok ((L.take i).flatMap f).toArray w.drew := by
    rw [hzs]
    refine run_firstCells_some w.drew 2 i ⟨g, 0, none⟩ i c _ hFa (fun j y hj => ?_)
    have hjl := (List.getElem?_eq_some_iff.1 hj).1
    rw [Addr.add_lit, Nat.zero_add]
    show w.cell? _ = _
    rw [cell_of_heap q2]
    refine hcurget _ _ (by omega) ?_
    rw [hparts, List.getElem?_append_left hjl]
    exact hj
  have hkk : (L.length : Int) + 1 - (i : Int) = ((L.length + 1 - i : Nat) : Int) := by omega
  have hik : i + (L.length + 1 - i) = L.length + 1 := by omega
  obtain ⟨G, hG⟩ : ∃ G, G = grownCap w (L.length + 1) c 77 := ⟨_, rfl⟩
  obtain ⟨ROW, hROW⟩ : ∃ ROW : Array Value, ROW = ((L.take i).flatMap f).toArray ++ Builtin.zeroCells (.agg #[.int .i64 0, .int .u64 0] : Value).cells (L.length + 1 - i) ++ Builtin.zeroCells (.agg #[.int .i64 0, .int .u64 0] : Value).cells (G - (L.length + 1)) := ⟨_, rfl⟩
  have hrz : ∀ ty, (Builtin.append_ #[42, 3] ty #[.slice (some ⟨g, 0, none⟩) i c, .int .i64 ((L.length : Int) + 1 - (i : Int))]).run Tryz.prog w = .ok (.slice (some ⟨w.heap.size, 0, none⟩) (L.length + 1) G) (w.drew.alloc (.cells ROW 77)) := fun ty => by
    have h := Lib.run_append_grow_zeros w 42 3 ty 77 i0 _ .i64 .i64 Tryz.underlying42 Tryz.underlying3 hi0 hz0 (some ⟨g, 0, none⟩) i c _ hold (L.length + 1 - i) (by omega) (by omega) (by omega) (by omega) (by rw [hzb]; omega) (by rw [hzb, hik]; exact growslice_fits hroom (by omega))
    rw [hik] at h
    rw [hkk, hROW, hG]
    exact h
  have hGn : L.length + 1 ≤ G := by rw [hG]; exact grownCap_ge w _ _ _
  have hG63 : G ≤ maxLen := by
    rw [hG]
    exact grownCap_le_maxLen w (L.length + 1) c 77 (by unfold maxLen; omega)
  have hG63' : G ≤ 9223372036854775807 := by unfold maxLen at hG63; omega
  have hRs : ROW.size = G * 2 := by
    rw [hROW]
    simp only [Array.size_append, List.size_toArray, hFa, Builtin.zeroCells, Array.size_map, Array.size_range, zero_size]
    omega
  obtain ⟨R1, hR1⟩ : ∃ R1, R1 = (ROW.toList.take (i * 2) ++ f x ++ ROW.toList.drop ((i * 2) + (f x).length)).toArray := ⟨_, rfl⟩
  obtain ⟨R2, hR2⟩ : ∃ R2, R2 = (R1.toList.take ((i + 1) * 2) ++ (L.drop i).flatMap f ++ R1.toList.drop (((i + 1) * 2) + ((L.drop i).flatMap f).length)).toArray := ⟨_, rfl⟩
  have hs1 : R1.size = G * 2 := by
    rw [hR1]
    simp only [List.size_toArray, List.length_append, List.length_take, List.length_drop, Array.length_toList, hfx, hRs]
    omega
  have hs2 : R2.size = G * 2 := by
    rw [hR2]
    simp only [List.size_toArray, List.length_append, List.length_take, List.length_drop, Array.length_toList, hFb, hs1]
    omega
  have hcp2 : ∀ W : World, W.heap[w.heap.size]? = some (.cells ROW 77) → (∀ j, W.cell? ⟨vb, j, none⟩ = w.cell? ⟨vb, j, none⟩) → ∀ ty dc, (Builtin.copy_ #[42, 42] ty #[.slice (some ⟨w.heap.size, (i * 2), none⟩) (L.length + 1 - i) dc, .slice (some ⟨vb, 0, none⟩) 1 1]).run Tryz.prog W = .ok (goInt (Nat.min 1 (L.length + 1 - i))) (W.setRow w.heap.size R1) := fun W hW hWv ty dc => by
    rw [hR1]
    refine run_copy_rowk W _ _ ty 77 2 w.heap.size _ _ _ ⟨vb, 0, none⟩ _ _ ROW 77 _ Tryz.underlying42 size_is hW (by rw [hfx]; simp only [Nat.min_def]; split <;> omega) (fun j y hj => ?_) (by rw [hfx, hRs]; omega) (h1 x)
    rw [Addr.add_lit, Nat.zero_add, hWv, cell_of_heap hv]
    simpa using hj
  have hcp1 : ∀ W : World, W.heap[w.heap.size]? = some (.cells R1 77) → (∀ j, W.cell? ⟨g, j, none⟩ = w.cell? ⟨g, j, none⟩) → ∀ ty dc sc, (Builtin.copy_ #[42, 42] ty #[.slice (some ⟨w.heap.size, ((i + 1) * 2), none⟩) (L.length - i) dc, .slice (some ⟨g, (i * 2), none⟩) (L.length - i) sc]).run Tryz.prog W = .ok (goInt (Nat.min (L.length - i) (L.length - i))) (W.setRow w.heap.size R2) := fun W hW hWg ty dc sc => by
    rw [hR2]
    refine run_copy_rowk W _ _ ty 77 2 w.heap.size _ _ _ ⟨g, (i * 2), none⟩ _ _ R1 77 _ Tryz.underlying42 size_is hW (by rw [hFb]; congr 1; simp only [Nat.min_def]; split <;> omega) (fun j y hj => ?_) (by rw [hFb, hs1]; omega) (flat_one h1 _)
    have hjl := (List.getElem?_eq_some_iff.1 hj).1
    rw [hFb] at hjl
    rw [Addr.add_lit, hWg, cell_of_heap q2]
    refine hcurget _ _ (by omega) ?_
    rw [hparts, List.getElem?_append_right (by rw [hFa]; omega), hFa]
    rw [← hj]
    congr 1
    omega
  have hw1 : IntKind.i64.wrap ((i : Int) + 1) = (i : Int) + 1 := IntWalk.i64_in _ (by omega)
  have hw2 : IntKind.i64.wrap ((L.length : Int) + 1) = (L.length : Int) + 1 := IntWalk.i64_in _ (by omega)
  have hw3 : IntKind.i64.wrap ((L.length : Int) + 1 - (i : Int)) = (L.length : Int) + 1 - (i : Int) := IntWalk.i64_in _ (by omega)
  have g1 : ¬ ((i : Int) = (L.length : Int)) := by omega
  have g2 : (0 : Int) ≤ (i : Int) + 1 := by omega
  have g3 : ((i : Int) + 1).toNat = i + 1 := by omega
  have g4 : ¬ G = i + 1 := by omega
  have g5 : ¬ c = i := by omega
  have g6 : ¬ G = i := by omega
  have g7 : (c : Int) < (L.length : Int) + 1 := by omega
  have g8 : i ≤ L.length := by omega
  have g9 : i ≤ L.length + 1 := by omega
  replace hcp1 := Lib.hid hcp1
  replace hcp2 := Lib.hid hcp2
  replace hcurget := Lib.hid hcurget
  replace hR1 := Lib.hid hR1
  replace hR2 := Lib.hid hR2
  replace hROW := Lib.hid hROW
  replace hf := Lib.hid hf
  replace h1 := Lib.hid h1
  clear hG hkk hik hold hz0 hzs hzb hi0
  go_enter Tryz.func127, Tryz.ntmps127
  go_wp2_with (at_builtin; refine Lib.wpList_append_run _ rfl _ _ _ _ rfl _ _ rfl rfl _ _ (hrz _) ?_)
  have hh0 : (w.alloc (.cells ROW 77)).drew.heap[w.heap.size]? = some (.cells ROW 77) := heap_alloc_new w _
  have hv0 : ∀ j, (w.alloc (.cells ROW 77)).drew.cell? ⟨vb, j, none⟩ = w.cell? ⟨vb, j, none⟩ := fun j => World.cell?_of_block (Below.heap_alloc w _ _ hvl)
  have hg0 : ∀ j, (w.alloc (.cells ROW 77)).drew.cell? ⟨g, j, none⟩ = w.cell? ⟨g, j, none⟩ := fun j => World.cell?_of_block (Below.heap_alloc w _ _ hgl)
  have hu0 : Upd [] w (w.alloc (.cells ROW 77)).drew := ((Upd.refl _ _).alloc _).drew
  rw [hcp2.out _ hh0 hv0]
  simp only [Result.andThen]
  rw [Oper.upon_value]
  have hh1 : ((w.alloc (.cells ROW 77)).drew.setRow w.heap.size R1).heap[w.heap.size]? = some (.cells R1 77) := setRow_heap _ _ _ _ _ _ hh0
  have hg1 : ∀ j, ((w.alloc (.cells ROW 77)).drew.setRow w.heap.size R1).cell? ⟨g, j, none⟩ = w.cell? ⟨g, j, none⟩ := fun j => (World.cell?_of_block (setRow_other _ _ g R1 (by omega))).trans (hg0 j)
  have hu1 : Upd [] w ((w.alloc (.cells ROW 77)).drew.setRow w.heap.size R1) := hu0.setRowNew (Nat.le_refl _) _
  generalize (w.alloc (.cells ROW 77)).drew.setRow w.heap.size R1 = W1 at *
  clear hrz hh0 hv0 hg0 hu0
  replace hg1 := Lib.hid hg1
  go_wp2_with fail
  have hh2 : W1.drew.heap[w.heap.size]? = some (.cells R1 77) := hh1
  have hg2 : Hid (∀ j, W1.drew.cell? ⟨g, j, none⟩ = w.cell? ⟨g, j, none⟩) := hg1.out
  have hu2 : Upd [] w W1.drew := hu1.drew
  go_region_law (refine step_copy_is rfl _ _ 42 42 rfl (.slice (some ⟨w.heap.size, ((i + 1) * 2), none⟩) (L.length - i) (G - (i + 1))) (.slice (some ⟨g, (i * 2), none⟩) (L.length - i) (c - i)) (by simp [Act.eval, Act.put]) (by simp [Act.eval, Act.put]) (hcp1.out _ hh2 hg2.out 3 (G - (i + 1)) (c - i)) ?_)
  have hh3 : (W1.drew.setRow w.heap.size R2).heap[w.heap.size]? = some (.cells R2 77) := setRow_heap _ _ _ _ _ _ hh2
  have hu3 : Upd [] w (W1.drew.setRow w.heap.size R2) := hu2.setRowNew (Nat.le_refl _) _
  generalize W1.drew.setRow w.heap.size R2 = W3 at *
  go_wp2_with fail
  go_ret
  have hL : (L.insertIdx i x).length = L.length + 1 := List.length_insertIdx_of_le_length g8 _
  refine ⟨some ⟨w.heap.size, 0, none⟩, G, by simp [hL], ?_, hu3.mono (by simp), .inr (by simp [Value.ownBlock])⟩
  refine ⟨hf.out, h1.out, flat_len hf.out _, .inr ⟨w.heap.size, G, R2, by rw [hL], hbase, hh3, by omega, hG63, hs2, ?_⟩⟩
  rw [hL, insert_flat L x i g8, hR2.out, hR1.out, hROW.out]
  have hgl2 := grow_lists (R := ROW.toList) (Fa := (L.take i).flatMap f) (Fb := (L.drop i).flatMap f) (X := f x) (n := L.length * 2) (a1 := (i * 2)) (a2 := ((i + 1) * 2)) (k := 2) (by rw [hROW.out]; simp only [Array.toList_append, List.append_assoc]; rw [List.take_append_of_le_length (by omega), List.take_of_length_le (by omega)]) (by omega) (by omega) hfx (by omega) (by omega)
  rw [show (L.length + 1) * 2 = L.length * 2 + 2 by omega]
  rw [hROW.out] at hgl2
  simpa using hgl2
theorem insert_any (h : Row base 77 2 f w (.slice a L.length c) L) (hv : w.heap[vb]? = some (.cells (f x).toArray 77)) (hbase : base ≤ w.heap.size) (hlen : L.length ≤ 100000) (i : Nat) (hi : i ≤ L.length)
    (hne : ∀ b, (Value.slice a L.length c).ownBlock = some b → b ≠ vb) :
    Calls Tryz.prog 127 #[.slice a L.length c, .int .i64 i, .slice (some ⟨vb, 0, none⟩) 1 1] w (InsEnd f base (.slice a L.length c) (L.insertIdx i x) w) := by
  rcases Nat.lt_or_ge i L.length with h1 | h1
  · rcases Nat.lt_or_ge c (L.length + 1) with h2 | h2
    · exact insert_grow f base a c L x vb w h hv hbase hlen i h1 h2
    · exact insert_room f base a c L x vb w h hv hlen i h1 h2 hne
  · obtain rfl : i = L.length := by omega
    rw [show L.insertIdx L.length x = L ++ [x] from List.insertIdx_length_self]
    exact insert_end f base a c L x vb w h hv hbase hlen
end InHd
end Go.Proofs.YtmhlokomlngdmaaGreat
