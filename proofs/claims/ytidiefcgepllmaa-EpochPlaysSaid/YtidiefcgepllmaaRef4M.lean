/- The document's Epoch: Next takes an entry. -/
import Derived.Test.YtidiefcgepllmaaRef4N
namespace Go.Proofs.Ytidiefcgepllmaa
open Go.RowKit
variable {base wp : Nat} {P : List Int} {O : List Nat} {w w1 : World}
/-- 'e.L = ..', a new row of entries that were there. -/
theorem RefIs.setL {pv lv : Value} {LL LL' : List RfE} (hI : RefIs base w wp pv lv P LL) (hwO : wp ∈ O) (hpO : ∀ q, pv.ownBlock = some q → q ∈ O) (hrO : ∀ r, r ∈ LL → ∀ q, r.u.ownBlock = some q → q ∈ O) (hO : ∀ k, k ∈ O → base ≤ k ∧ k < w.heap.size)
    (hb : Below w.heap.size w w1) {v' : Value} (hr : Row w.heap.size 66 2 rfCell w1 v' LL') (hsub : ∀ r, r ∈ LL' → r ∈ LL) : RefEnd base wp P (LL'.map fun r => (r.n, r.W)) O w (w1.setCell ⟨wp, 1, none⟩ v') := by
  have hlow := hO wp hwO
  have hI1 := hI.upd (Upd.of_below (S := []) hb) (by simp) (by simp) (by simp) (by simp)
  have hs : Upd [wp] w1 (w1.setCell ⟨wp, 1, none⟩ v') := (Upd.refl _ _).setCell (p := ⟨wp, 1, none⟩) (by simp) _
  obtain ⟨n1, n2, n3, n4⟩ := hI1.ne
  have hsz := hb.size
  have hz := hs.size
  refine ⟨O ++ v'.ownBlock.toList, ⟨pv, v', LL', ⟨by rw [heap_set_same hI1.blk]; rfl, hI1.pr.upd hs (fun q hq hh => by simp at hh; exact n1 q hq hh), (hr.rebase (fun q hq => by have := hr.lt q hq; omega)).upd hs (fun q hq hh => by have := hr.lt q hq; simp at hh; omega), fun r hr' => (hI1.ws r (hsub r hr')).upd hs (fun q hq hh => by simp at hh; exact (n3 r (hsub r hr') q hq).1 hh), hI1.wb⟩, rfl, List.mem_append_left _ hwO, fun q hq => List.mem_append_left _ (hpO q hq), fun q hq => List.mem_append_right _ (by rw [hq]; simp), fun r hr' q hq => List.mem_append_left _ (hrO r (hsub r hr') q hq), fun q hq => ?_⟩, ((Upd.of_below (S := []) hb).mono (by simp)).trans (hs.mono (fun q hq => by simp at hq; rw [hq]; exact hwO)), fun q hq => ?_⟩
  · rcases List.mem_append.1 hq with hq | hq
    · have := hO q hq; omega
    · have := hr.lt q (mem_own hq); omega
  · rcases List.mem_append.1 hq with hq | hq
    · exact .inl hq
    · exact .inr (hr.lt q (mem_own hq)).1
set_option maxRecDepth 100000 in
set_option maxHeartbeats 2000000 in
/-- The first that is ripe is taken. -/
theorem rNext_at (base wp : Nat) (P : List Int) (L : List (Int × List Int)) (O : List Nat) (from' many i0 : Nat) (n0 : Int) (w : World) (h : RefJ base wp P L O w) (hL : L.length ≤ 100000) (hm : many ≤ L.length) (hfi0 : from' ≤ i0) (hi0 : i0 < many) (h0 : L[i0]? = some (n0, []))
    (hno : ∀ i n W, from' ≤ i → i < i0 → L[i]? = some (n, W) → W ≠ []) :
    Calls Try.prog 36 #[.pointer (some ⟨wp, 0, none⟩), .int .i64 from', .int .i64 many] w fun z w' => z = .returned (.tuple #[.int .i64 n0, .int .i64 i0]) ∧ RefEnd base wp P (L.eraseIdx i0) O w w' := by
  obtain ⟨a, c, d1, hwl, hent⟩ := h.entry
  replace hent := Lib.hid hent
  replace hno := Lib.hid hno
  replace h := Lib.hid h
  replace h0 := Lib.hid h0
  go_enter Try.func36, Try.ntmps36
  go_wp2_with fail
  go_loopg [8] (i0 - from') (fun gk iv wr => ∃ i : Nat, gk = i0 - i ∧ from' ≤ i ∧ i ≤ i0 ∧ iv = .int .i64 i ∧ wr = w)
  case atStart => exact ⟨from', rfl, Nat.le_refl _, hfi0, rfl, rfl⟩
  case round =>
    obtain ⟨i, rfl, hfi, him, rfl, rfl⟩ := hrel
    have hil : i < L.length := by omega
    have him2 : i < many := by omega
    by_cases hlt : i < i0
    · obtain ⟨⟨n, W⟩, hp⟩ : ∃ p, L[i]? = some p := ⟨_, List.getElem?_eq_getElem (by omega)⟩
      obtain ⟨b, a', c', rfl, hbl, g0, g1⟩ := hent.out i n W hp
      have hW := hno.out i n W hfi hlt hp
      have hWl : ¬ W.length = 0 := fun hh => hW (List.eq_nil_of_length_eq_zero hh)
      replace hp := Lib.hid hp
      replace hW := Lib.hid hW
      go_wp2_with fail
      go_roundg (i0 - (i + 1))
      case measure => omega
      case rel => exact ⟨i + 1, rfl, by omega, by omega, by go_num, rfl⟩
    · obtain rfl : i = i0 := by omega
      obtain ⟨b, a', c', rfl, hbl, g0, g1⟩ := hent.out i n0 [] h0.out
      obtain ⟨pv, lv, LL, hI, hLL, hwO, hpO, hlO, hrO, hO⟩ := h.out
      have hll : LL.length = L.length := by rw [← hLL, List.length_map]
      have hlv : lv = .slice (some ⟨b, 0, none⟩) LL.length c := by
        have := d1
        rw [cell_of_heap hI.blk] at this
        rw [hll]
        simpa using this
      subst hlv
      have hK : Hid (∀ w1, Below wr.heap.size wr w1 → w1.cell? ⟨wp, 1, none⟩ = some (.slice (some ⟨b, 0, none⟩) L.length c) ∧ w1.frozen? ⟨wp, 1, none⟩ = false ∧ wp < w1.heap.size) := Lib.hid (fun w1 hb => by
        have := (Upd.of_below (S := []) hb).heap hI.blk (by simp)
        exact ⟨by rw [hb.cell hwl]; exact d1, frozen_of_heap this _, heap_lt this⟩)
      have hiL : i < LL.length := by omega
      have hmin : min i LL.length = i := by omega
      have hlen1 : (LL.take i).length = i := by rw [List.length_take]; omega
      have hS7 : SrcOf wr (.slice (some ⟨b, 0, none⟩) i c) (LL.take i).length 2 ((LL.take i).flatMap rfCell) := by rw [hlen1]; exact hI.lr.head i c (Nat.le_of_lt hiL)
      have hlc : L.length ≤ c := by
        rcases hI.lr.cases with ⟨h0, _⟩ | ⟨_, _, h0, _, _, _, h5, _⟩
        · cases h0
        · simp at h0; omega
      have hS8 : SrcOf wr (.slice (if c = i + 1 then some (⟨b, 0, none⟩ : Addr) else some ⟨b, (i + 1) * 2, none⟩) (L.length - (i + 1)) (c - (i + 1))) (LL.drop (i + 1)).length 2 ((LL.drop (i + 1)).flatMap rfCell) := by
        rw [← hll]
        exact hI.lr.tail (i + 1) (by omega)
      have hnil := Lib.hid (Row.nil (k := 2) (f := rfCell) (fun _ => rfl) rfCell_one wr.heap.size 66 wr)
      obtain ⟨i4, hi4, hz4, hs4, hy4⟩ := rf_info
      have hl7 : ([] : List RfE).length + (LL.take i).length ≤ maxLen := by unfold maxLen; rw [hlen1]; simp; omega
      have hb7 : (([] : List RfE).length + (LL.take i).length) * 32 ≤ 140737488355328 := by rw [hlen1]; simp; omega
      have hl8 : (LL.take i).length + (LL.drop (i + 1)).length ≤ maxLen := by unfold maxLen; simp; omega
      have hb8 : ((LL.take i).length + (LL.drop (i + 1)).length) * 32 ≤ 140737488355328 := by simp; omega
      have hE : Hid (∀ w1 v', Below wr.heap.size wr w1 → Row wr.heap.size 66 2 rfCell w1 v' (LL.take i ++ LL.drop (i + 1)) → RefEnd base wp P (L.eraseIdx i) O wr (w1.setCell ⟨wp, 1, none⟩ v')) := Lib.hid (fun w1 v' hb hr => by
        have := hI.setL hwO hpO hrO hO hb hr (fun r hr => by
          rcases List.mem_append.1 hr with hr | hr
          · exact List.mem_of_mem_take hr
          · exact List.mem_of_mem_drop hr)
        rw [List.map_append, List.map_take, List.map_drop, hLL, ← List.eraseIdx_eq_take_drop_succ] at this
        exact this)
      replace hS7 := Lib.hid hS7
      replace hS8 := Lib.hid hS8
      replace hl7 := Lib.hid hl7
      replace hb7 := Lib.hid hb7
      replace hl8 := Lib.hid hl8
      replace hb8 := Lib.hid hb8
      replace hlen1 := Lib.hid hlen1
      replace hi4 := Lib.hid hi4
      replace hz4 := Lib.hid hz4
      replace hs4 := Lib.hid hs4
      replace hy4 := Lib.hid hy4
      replace hll := Lib.hid hll
      clear hI hLL hwO hpO hlO hrO hO hent
      go_upto_region 7 with fail
      go_upto_region 8 with (at_builtin; refine wpList_append_row (f := rfCell) (M := LL.take i) _ rfl _ _ 33 rfl wr.heap.size 66 i4 (.agg #[.int .i64 0, .slice none 0 0]) 2 32 Try.underlying33 hi4.out hz4.out hs4.out hy4.out rfl (by decide) (.slice none 0 0) [] rfl hnil.out (.slice (some ⟨b, 0, none⟩) i c) rfl hS7.out hl7.out hb7.out (Nat.le_refl _) ?_; intro a7 c7 w7 hrow7 hu7 hat7; replace hrow7 := Lib.hid hrow7; replace hu7 := Lib.hid hu7; clear hat7)
      have hR7 : Row wr.heap.size 66 2 rfCell w7 (.slice a7 i c7) (LL.take i) := by
        have := hrow7.out
        simpa only [List.length_nil, Nat.zero_add, List.nil_append, hlen1.out] using this
      have hB7 : Below wr.heap.size wr w7 := hu7.out.below (Nat.le_refl _) (by simp [Value.ownBlock])
      obtain ⟨q1, q2, q3⟩ := hK.out w7 hB7
      have hS9 := hS8.out.below hB7
      have hbs7 := Lib.hid hB7.size
      have hi1 : i + 1 ≤ L.length := hil
      have fin : ∀ w9 a9 c9 n9, Row wr.heap.size 66 2 rfCell w9 (.slice a9 n9 c9) (LL.take i ++ LL.drop (i + 1)) → Below wr.heap.size wr w9 → RefEnd base wp P (L.eraseIdx i) O wr (w9.setCell ⟨wp, 1, none⟩ (.slice a9 n9 c9)) := fun w9 a9 c9 n9 hr hb => hE.out w9 _ hb hr
      replace fin := Lib.hid fin
      replace hR7 := Lib.hid hR7
      replace hB7 := Lib.hid hB7
      clear hrow7 hu7 hS7 hS8 hE
      by_cases hpc : c = i + 1
      · subst hpc
        rw [if_pos rfl, Nat.sub_self, show L.length - (i + 1) = 0 by omega] at hS9
        replace hS9 := Lib.hid hS9
        go_wp2_with (at_builtin; refine wpList_append_row (f := rfCell) (M := LL.drop (i + 1)) _ rfl _ _ 33 rfl wr.heap.size 66 i4 (.agg #[.int .i64 0, .slice none 0 0]) 2 32 Try.underlying33 hi4.out hz4.out hs4.out hy4.out rfl (by decide) (.slice a7 i c7) (LL.take i) rfl hR7.out (.slice (some ⟨b, 0, none⟩) 0 0) rfl hS9.out hl8.out hb8.out hbs7.out ?_; intro a9 c9 w9 hrow9 hu9 hat9; have hB10 := hB7.out.trans (hu9.below hbs7.out (fun k hk => (hR7.out.lt k (mem_own hk)).1)); obtain ⟨z1, z2, z3⟩ := hK.out w9 hB10; have hF := Lib.hid (fin.out w9 a9 c9 _ hrow9 hB10); clear hrow9 hu9 hat9 hB10)
        go_ret2
        have := hF.out
        rw [show (LL.take i).length + (LL.drop (i + 1)).length = i + (LL.length - (i + 1)) by simp; omega] at this
        exact ⟨rfl, this⟩
      · rw [if_neg hpc] at hS9
        replace hS9 := Lib.hid hS9
        go_wp2_with (at_builtin; refine wpList_append_row (f := rfCell) (M := LL.drop (i + 1)) _ rfl _ _ 33 rfl wr.heap.size 66 i4 (.agg #[.int .i64 0, .slice none 0 0]) 2 32 Try.underlying33 hi4.out hz4.out hs4.out hy4.out rfl (by decide) (.slice a7 i c7) (LL.take i) rfl hR7.out (.slice (some ⟨b, (i + 1) * 2, none⟩) (L.length - (i + 1)) (c - (i + 1))) rfl hS9.out hl8.out hb8.out hbs7.out ?_; intro a9 c9 w9 hrow9 hu9 hat9; have hB10 := hB7.out.trans (hu9.below hbs7.out (fun k hk => (hR7.out.lt k (mem_own hk)).1)); obtain ⟨z1, z2, z3⟩ := hK.out w9 hB10; have hF := Lib.hid (fin.out w9 a9 c9 _ hrow9 hB10); clear hrow9 hu9 hat9 hB10)
        go_ret2
        have := hF.out
        rw [show (LL.take i).length + (LL.drop (i + 1)).length = i + (LL.length - (i + 1)) by simp; omega] at this
        exact ⟨rfl, this⟩
end Go.Proofs.Ytidiefcgepllmaa
