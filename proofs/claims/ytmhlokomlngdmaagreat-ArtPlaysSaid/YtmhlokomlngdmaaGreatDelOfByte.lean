/- slices.Delete of one element, at one type of slices: a row of the call's own with one element less. -/
import Derived.Test.YtmhlokomlngdmaaGreatInsertOfByte
import Derived.Lib.SliceRun
import Derived.Deep.RegionLaw
namespace Go.Proofs.YtmhlokomlngdmaaGreat
open Go.RowKit
theorem run_clear_Byte {P : Program} (w : World) (t e ty : TypeId) (z : Value) (ht : P.underlying t = some (.slice e)) (hv : ∀ w, (zeroValue e).run P w = .ok z w) (h1 : ∀ u, u ∈ z.cells.toList → u.oneCell' = true) (b o c : Nat)
    (hc : ∀ j, j < z.cells.size → (w.cell? ⟨b, o + j, none⟩).isSome = true) (hf : ∀ j, j < z.cells.size → w.frozen? ⟨b, o + j, none⟩ = false) :
    (Builtin.clear_ #[t] ty #[.slice (some ⟨b, o, none⟩) 1 c]).run P w = .ok (.tuple #[]) (w.setCells b o z.cells.toList) := by
  have hzc : (Builtin.zeroCells z.cells 1).toList = z.cells.toList := by
    simp only [Builtin.zeroCells, Nat.one_mul]
    apply List.ext_getElem
    · simp
    · intro i h1 h2
      have hi : i < z.cells.size := by simpa using h2
      simp [Nat.mod_eq_of_lt hi, hi]
  have hst := run_storeCells_cells (P := P) b o z.cells.toList 0 w (by simpa using hc) (by simpa using hf) h1
  simp only [Nat.add_zero] at hst
  simp [Builtin.clear_, run_underlying ht, hv, hzc, hst]
namespace InByte
variable {α : Type} (f : α → List Value) (base : Nat) (a : Option Addr) (c : Nat) (L : List α) (w : World)
theorem erase_flat {f : α → List Value} (L : List α) (i : Nat) : (L.eraseIdx i).flatMap f = (L.take i).flatMap f ++ (L.drop (i + 1)).flatMap f := by
  rw [List.eraseIdx_eq_take_drop_succ, List.flatMap_append]
set_option maxRecDepth 100000 in
theorem delete_any (h : Row base 5 1 f w (.slice a L.length c) L) (hlen : L.length ≤ 100000) (i : Nat) (hi : i < L.length) :
    Calls Tryz.prog 124 #[.slice a L.length c, .int .i64 i, .int .i64 ((i : Int) + 1)] w (InsEnd f base (.slice a L.length c) (L.eraseIdx i) w) := by
  obtain ⟨i0, hi0, hz0, hzs, hzb⟩ := info
  obtain ⟨hf, h1, hl0, ⟨e, e2⟩ | ⟨g, cap, cur, e, q1, q2, q3, q4, q5, q6⟩⟩ := h
  · omega
  injection e with e _ e3
  subst e e3
  have hgl := heap_lt q2
  have hF := flat_len hf L
  have hcap63 : c ≤ 9223372036854775807 := by unfold maxLen at q4; omega
  have hsz : cur.size = c * 1 := q5
  obtain ⟨N, hN⟩ : ∃ N, N = (L.drop (i + 1)).flatMap f := ⟨_, rfl⟩
  have hNl : N.length = (L.length - (i + 1)) * 1 := by rw [hN, flat_len hf, List.length_drop]
  have hN1 : ∀ u ∈ N, u.oneCell' = true := by rw [hN]; exact flat_one h1 _
  have hparts : L.flatMap f = (L.take (i + 1)).flatMap f ++ N := by rw [hN, ← List.flatMap_append, List.take_append_drop]
  have hFa : ((L.take (i + 1)).flatMap f).length = (i + 1) * 1 := by rw [flat_len hf, List.length_take, Nat.min_eq_left (by omega)]
  have hcurget : ∀ j y, j < L.length * 1 → (L.flatMap f)[j]? = some y → cur[j]? = some y := fun j y hj hy => by
    rw [← q6] at hy
    rw [List.getElem?_take, if_pos hj] at hy
    simpa using hy
  obtain ⟨A, hA, hsrc⟩ : ∃ A : Addr, (if c = i + 1 then some (⟨g, 0, none⟩ : Addr) else some ⟨g, (i + 1), none⟩) = some A ∧ Hid (∀ t u, N[t]? = some u → w.drew.cell? (A.add t) = some u) := by
    by_cases h : c = i + 1
    · refine ⟨⟨g, 0, none⟩, by simp [h], fun t u hu => ?_⟩
      have h0 : N.length = 0 := by rw [hNl]; omega
      rw [List.length_eq_zero_iff.1 h0] at hu
      simp at hu
    · refine ⟨⟨g, (i + 1), none⟩, by simp [h], fun t u hu => ?_⟩
      have ht := (List.getElem?_eq_some_iff.1 hu).1
      rw [Addr.add_lit]
      show w.cell? _ = _
      rw [cell_of_heap q2]
      refine hcurget _ _ (by omega) ?_
      rw [hparts, List.getElem?_append_right (by omega), hFa, show (i + 1) + t - (i + 1) * 1 = t by omega]
      exact hu
  have hcg : ∀ j, j < c * 1 → (w.cell? ⟨g, j, none⟩).isSome = true := fun j hj => by
    rw [cell_of_heap q2, Array.getElem?_eq_getElem (by omega)]
    rfl
  have s1 : Hid (N.length = (L.length - (i + 1)) * 1) := hNl
  have s2 : Hid (∀ u ∈ N, u.oneCell' = true) := hN1
  have s3 : Hid (∀ t, t < N.length → (w.drew.cell? ⟨g, 0 + i * 1 + t, none⟩).isSome = true ∧ w.drew.frozen? ⟨g, 0 + i * 1 + t, none⟩ = false) := by
    intro t ht
    exact ⟨hcg _ (by omega), frozen_of_heap q2 _⟩
  obtain ⟨W1, hW1⟩ : ∃ W1, W1 = w.drew.setCells g (0 + i * 1) N := ⟨_, rfl⟩
  obtain ⟨cur1, hcur1⟩ : ∃ cur1, cur1 = (cur.toList.take (i * 1) ++ N ++ cur.toList.drop (i * 1 + N.length)).toArray := ⟨_, rfl⟩
  have hh1 : W1.heap[g]? = some (.cells cur1 5) := by
    rw [hW1, hcur1, Nat.zero_add]
    exact heap_setCells N (i * 1) cur w.drew q2 (by omega)
  have hsz1 : cur1.size = c * 1 := by
    rw [hcur1]
    simp only [List.size_toArray, List.length_append, List.length_take, List.length_drop, Array.length_toList]
    omega
  have hu1 : Upd [g] w W1 := by rw [hW1]; exact Upd.setCells (by simp) _ _ ((Upd.refl _ _).drew)
  have hzl : (.int .u8 0 : Value).cells.toList.length = 1 := rfl
  have hcl : ∀ ty dc, (Builtin.clear_ #[98] ty #[.slice (some ⟨g, L.length - 1, none⟩) 1 dc]).run Tryz.prog W1 = .ok (.tuple #[]) (W1.setCells g (L.length - 1) (.int .u8 0 : Value).cells.toList) := fun ty dc =>
    run_clear_Byte W1 _ 5 ty _ Tryz.underlying98 Tryz.zeroValue5 (fun u hu => by simp [Value.cells] at hu; rcases hu with rfl | rfl <;> rfl) g (L.length - 1) dc (fun j hj => by
      have hj' : j < 1 := hj
      rw [cell_of_heap hh1, Array.getElem?_eq_getElem (by omega)]; rfl) (fun j hj => frozen_of_heap hh1 _)
  have hw1 : IntKind.i64.wrap ((i : Int) + 1) = (i : Int) + 1 := IntWalk.i64_in _ (by omega)
  have g1 : ¬ ((i : Int) = (i : Int) + 1) := by omega
  have g2 : (0 : Int) ≤ (i : Int) + 1 := by omega
  have g3 : ((i : Int) + 1).toNat = i + 1 := by omega
  have g4 : (i : Int) + 1 ≤ (L.length : Int) := by omega
  have g5 : (i : Int) ≤ (i : Int) + 1 := by omega
  have g6 : i ≤ c := by omega
  have g7 : i + 1 ≤ c := by omega
  replace hh1 := Lib.hid hh1
  replace hu1 := Lib.hid hu1
  replace hW1 := Lib.hid hW1
  replace hcur1 := Lib.hid hcur1
  replace hcl := Lib.hid hcl
  replace hcurget := Lib.hid hcurget
  replace hcg := Lib.hid hcg
  replace hf := Lib.hid hf
  replace h1 := Lib.hid h1
  clear hN1
  go_enter Tryz.func124, Tryz.ntmps124
  go_wp2_with fail
  go_region_law (refine step_append_room rfl (.tmp 22) (.tmp 25) 98 rfl 5 i0 1 Tryz.underlying98 hi0 hzs g 0 i c (by simp [Act.eval, Act.put]) A (L.length - (i + 1)) (c - (i + 1)) N (by simp [Act.eval, Act.put]) s1.out hsrc.out s2.out (by omega) s3.out ?_; rw [← hW1.out])
  go_wp2_with fail
  rw [show L.length - (i + (L.length - (i + 1))) = 1 by omega, show i + (L.length - (i + 1)) = L.length - 1 by omega, hcl.out]
  simp only [Result.andThen]
  rw [Oper.upon_value]
  have hh2 := heap_setCells (.int .u8 0 : Value).cells.toList (L.length - 1) cur1 W1 hh1.out (by rw [hzl]; omega)
  have hu2 : Upd [g] w (W1.setCells g (L.length - 1) (.int .u8 0 : Value).cells.toList) := Upd.setCells (by simp) _ _ hu1.out
  rw [hzl] at hh2
  generalize W1.setCells g (L.length - 1) (.int .u8 0 : Value).cells.toList = W2 at *
  go_wp2_with fail
  go_ret
  have hL : (L.eraseIdx i).length = L.length - 1 := List.length_eraseIdx_of_lt hi
  refine ⟨some ⟨g, 0, none⟩, c, by simp [hL], ?_, hu2.mono (by simp [Value.ownBlock]), .inl (by simp [Value.ownBlock])⟩
  refine ⟨hf.out, h1.out, flat_len hf.out _, .inr ⟨g, c, _, by rw [hL], q1, hh2, by omega, q4, ?_, ?_⟩⟩
  · simp only [List.size_toArray, List.length_append, List.length_take, List.length_drop, Array.length_toList, hzl]
    omega
  · rw [hL, erase_flat L i, hcur1.out]
    have e4 : ((L.take i).flatMap f).length = i * 1 := by rw [flat_len hf.out, List.length_take, Nat.min_eq_left (by omega)]
    have hct : cur.toList.take (i * 1) = (L.take i).flatMap f := by
      have e3 : (L.take i).flatMap f ++ (L.drop i).flatMap f = cur.toList.take (L.length * 1) := by rw [← List.flatMap_append, List.take_append_drop, ← q6]
      rw [show cur.toList.take (i * 1) = (cur.toList.take (L.length * 1)).take (i * 1) by rw [List.take_take, Nat.min_eq_left (by omega)], ← e3, List.take_append_of_le_length (by omega), List.take_of_length_le (by omega)]
    have e5 : (cur.toList.take (i * 1)).length = i * 1 := by rw [List.length_take, Array.length_toList]; omega
    rw [← hN, ← hct]
    have e7 : (cur.toList.take (i * 1) ++ N).length = (L.length - 1) * 1 := by simp only [List.length_append]; omega
    have e8 : ∀ X : List Value, List.take (L.length - 1) X = List.take ((L.length - 1) * 1) X := fun X => congrArg (fun q => List.take q X) (show L.length - 1 = (L.length - 1) * 1 by omega)
    rw [e8]
    simp only [List.append_assoc] at e7 ⊢
    rw [List.take_append_of_le_length (by rw [List.length_take]; simp only [List.length_append] at e7 ⊢; omega)]
    rw [List.take_take, Nat.min_self, ← List.append_assoc]
    exact List.take_left' (by simpa using e7)
end InByte
end Go.Proofs.YtmhlokomlngdmaaGreat
