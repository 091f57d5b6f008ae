/- The document's Epoch: Retire. -/
import Derived.Test.YtidiefcgepllmaaRef4I
namespace Go.Proofs.Ytidiefcgepllmaa
open Go.RowKit
theorem rf_info : ∃ i0 : TypeInfo, Try.prog.info? 66 = some i0 ∧ i0.zero = some (.agg #[.int .i64 0, .slice none 0 0]) ∧ i0.size = 2 ∧ i0.bytes = 32 := info_parts (show (Try.prog.info? 66).map (fun i => (i.zero, i.size, i.bytes)) = some (some (.agg #[.int .i64 0, .slice none 0 0]), 2, 32) by kernel_rfl)
set_option maxRecDepth 100000 in
set_option maxHeartbeats 2000000 in
theorem rRetire_any (base wp : Nat) (P : List Int) (L : List (Int × List Int)) (O : List Nat) (n : Int) (w : World) (h : RefJ base wp P L O w) (hP : P.length ≤ 100000) (hL : L.length ≤ 100000) (hbase : base ≤ w.heap.size) :
    Calls Try.prog 21 #[.pointer (some ⟨wp, 0, none⟩), .int .i64 n] w fun z w' => z = .returned (.tuple #[]) ∧ RefEnd base wp P (L ++ [(n, P)]) O w w' := by
  obtain ⟨pv, lv, LL, hI, hLL, hwO, hpO, hlO, hrO, hO⟩ := h
  obtain ⟨pa, pc, e1⟩ := hI.pr.shape
  subst e1
  obtain ⟨la, lc, e2⟩ := hI.lr.shape
  subst e2
  have hll : LL.length = L.length := by rw [← hLL, List.length_map]
  go_enter Try.func21, Try.ntmps21
  go_upto_region 1 with fail
  have hB1 : Below w.heap.size w (w.alloc (.cells #[.int .i64 n, .slice none 0 0] 66)) := (Below.refl _ _).alloc (Nat.le_refl _) _
  have hx1 := heap_alloc_new w (.cells #[.int .i64 n, .slice none 0 0] 66)
  have hI1 := hI.upd (Upd.of_below (S := []) hB1) (by simp) (by simp) (by simp) (by simp)
  have hk : w.heap.size ≤ w.heap.size := Nat.le_refl _
  have hOk : ∀ q, q ∈ O → q < w.heap.size := fun q hq => (hO q hq).2
  replace hOk := Lib.hid hOk
  generalize w.alloc (.cells #[.int .i64 n, .slice none 0 0] 66) = w1 at *
  generalize hkk : w.heap.size = k at hx1 hk ⊢
  have hk1 := heap_lt hx1
  have d0 : w1.cell? ⟨wp, 0, none⟩ = some (.slice pa P.length pc) := by rw [cell_of_heap hI1.blk]; rfl
  have hwl := heap_lt hI1.blk
  have hdr : Below w1.heap.size w1 w1.drew := (Below.refl _ _).drew
  have hsrc := Lib.hid (hI1.pr.below hdr).src
  have hnil := Lib.hid (Row.nil (f := intCell) (fun _ => rfl) intCell_one base 3 w1.drew)
  have hbs : base ≤ w1.drew.heap.size := Nat.le_trans hbase (Nat.le_trans hB1.size hdr.size)
  replace hbs := Lib.hid hbs
  have hKx := Lib.hid (show ∀ w2, Upd (Value.slice none 0 0).ownBlock.toList w1.drew w2 → w2.heap[k]? = some (.cells #[.int .i64 n, .slice none 0 0] 66) ∧ w2.cell? ⟨k, 1, none⟩ = some (.slice none 0 0) ∧ w2.frozen? ⟨k, 1, none⟩ = false ∧ k < w2.heap.size from fun w2 hu => by
    have := hu.heap ((Upd.of_below (S := []) hdr).heap hx1 (by simp)) (by simp [Value.ownBlock])
    exact ⟨this, by rw [cell_of_heap this]; rfl, frozen_of_heap this 1, heap_lt this⟩)
  have x1 : w1.cell? ⟨k, 1, none⟩ = some (.slice none 0 0) := by rw [cell_of_heap hx1]; rfl
  obtain ⟨ii, hi8, hz8, hs8, hy8⟩ := int_infoR
  have hlen : ([] : List Int).length + P.length ≤ maxLen := by unfold maxLen; simp; omega
  have hby : (([] : List Int).length + P.length) * 8 ≤ 140737488355328 := by simp; omega
  replace hlen := Lib.hid hlen
  replace hby := Lib.hid hby
  replace hI := Lib.hid hI
  replace hI1 := Lib.hid hI1
  replace hB1 := Lib.hid hB1
  replace hO := Lib.hid hO
  replace hx1 := Lib.hid hx1
  replace hkk := Lib.hid hkk
  replace hrO := Lib.hid hrO
  replace hpO := Lib.hid hpO
  replace hlO := Lib.hid hlO
  go_region_law (refine step_append_row (f := intCell) (M := P) _ rfl (.tmp 8) (.tmp 12) 27 rfl base 3 ii (.int .i64 0) 1 8 Try.underlying27 hi8 hz8 hs8 hy8 rfl (by decide) (.slice none 0 0) [] (by simp [Act.eval]) hnil.out (.slice pa P.length pc) (by simp [Act.eval]) hsrc.out hlen.out hby.out hbs.out ?_; intro a' c' w2 hrow hu hat; obtain ⟨y0, y1, y2, y3⟩ := hKx.out w2 hu; replace y0 := Lib.hid y0; replace hrow := Lib.hid hrow; replace hu := Lib.hid hu; replace hat := Lib.hid hat)
  all_goals
    go_wp2_with fail
    have hrow' : Row base 3 1 intCell w2 (.slice a' P.length c') P := by
      have := hrow.out
      simpa only [List.length_nil, Nat.zero_add, List.nil_append] using this
    have hat' : (Value.slice a' P.length c').ownBlock = none ∨ (Value.slice a' P.length c').ownBlock = some w1.drew.heap.size := by
      have := hat.out
      simpa only [List.length_nil, Nat.zero_add, show (Value.slice none 0 0).ownBlock = none from rfl] using this
    have hU2 : Upd [] w1 w2 := (Upd.of_below hdr).trans hu.out
    have hs3 : Upd [k] w2 (w2.setCell ⟨k, 1, none⟩ (.slice a' P.length c')) := (Upd.refl _ _).setCell (p := ⟨k, 1, none⟩) (by simp) _
    have hnO : ∀ q, q ∈ O → q ∉ [k] := fun q hq hh => by
      have h1 := hOk.out q hq
      rw [hkk.out] at h1
      simp at hh
      omega
    have hak : ∀ q, (Value.slice a' P.length c').ownBlock = some q → k < q := fun q hq => by
      rcases hat' with h1 | h1
      · rw [h1] at hq; cases hq
      · rw [h1] at hq; injection hq with hq; subst hq; exact Nat.lt_of_lt_of_le hk1 hdr.size
    have hI3 := (hI1.out.upd hU2 (by simp) (by simp) (by simp) (by simp)).upd hs3 (hnO _ hwO) (fun q hq => hnO _ (hpO.out q hq)) (fun q hq => hnO _ (hlO.out q hq)) (fun r hr q hq => hnO _ (hrO.out r hr q hq))
    have hx3 : (w2.setCell ⟨k, 1, none⟩ (.slice a' P.length c')).heap[k]? = some (.cells #[.int .i64 n, .slice a' P.length c'] 66) := by rw [heap_set_same y0.out]; rfl
    have hrow3 := hrow'.upd hs3 (fun q hq hh => by have := hak q hq; simp at hh; omega)
    have hU3 : Upd [] w (w2.setCell ⟨k, 1, none⟩ (.slice a' P.length c')) := ((Upd.of_below hB1.out).trans hU2).via (T := [k]) hs3 (fun q hq => .inr (by simp at hq; rw [hq, hkk.out]; exact Nat.le_refl _))
    clear hrow hat hu hU2 hs3 hrow' hat' y0 y1 y2 y3 hKx hlen hby hsrc hnil x1 d0 hwl
    generalize w2.setCell ⟨k, 1, none⟩ (.slice a' P.length c') = w3 at *
    have hwl3 := heap_lt hI3.blk
    have hkl3 := heap_lt hx3
    have e0 : w3.cell? ⟨k, 0, none⟩ = some (.int .i64 n) := by rw [cell_of_heap hx3]; rfl
    have e1 : w3.cell? ⟨k, 1, none⟩ = some (.slice a' P.length c') := by rw [cell_of_heap hx3]; rfl
    have d1 : w3.cell? ⟨wp, 1, none⟩ = some (.slice la LL.length lc) := by rw [cell_of_heap hI3.blk]; rfl
    have hB4 : Below w3.heap.size w3 (w3.drew.alloc (.cells #[.int .i64 n, .slice a' P.length c'] 66)) := (Below.refl _ _).drew.alloc (Nat.le_refl _) _
    have hI4 := hI3.upd (Upd.of_below (S := []) hB4) (by simp) (by simp) (by simp) (by simp)
    have hS4 := Lib.hid (SrcOf.one w3.drew 66 (rfCell ⟨n, a', c', P⟩) (rfCell_one _))
    have hbs4 : base ≤ (w3.drew.alloc (.cells #[.int .i64 n, .slice a' P.length c'] 66)).heap.size := Nat.le_trans hbase (Nat.le_trans hU3.size hB4.size)
    replace hbs4 := Lib.hid hbs4
    have hne := hI4.ne
    have hK4 := Lib.hid (show ∀ w5, Upd (Value.slice la LL.length lc).ownBlock.toList (w3.drew.alloc (.cells #[.int .i64 n, .slice a' P.length c'] 66)) w5 → w5.heap[wp]? = some (.cells #[.slice pa P.length pc, .slice la LL.length lc] 35) ∧ w5.cell? ⟨wp, 1, none⟩ = some (.slice la LL.length lc) ∧ w5.frozen? ⟨wp, 1, none⟩ = false ∧ wp < w5.heap.size from fun w5 hu => by
      have := hu.heap hI4.blk (fun hh => hne.2.1 _ (mem_own hh) rfl)
      exact ⟨this, by rw [cell_of_heap this]; rfl, frozen_of_heap this 1, heap_lt this⟩)
    obtain ⟨i4, hi4, hz4, hs4, hy4⟩ := rf_info
    have hlen4 : LL.length + 1 ≤ maxLen := by unfold maxLen; omega
    have hby4 : (LL.length + 1) * 32 ≤ 140737488355328 := by omega
    replace hlen4 := Lib.hid hlen4
    replace hby4 := Lib.hid hby4
    have hR4 := Lib.hid hI4.lr
    replace hI4 := Lib.hid hI4
    replace hI3 := Lib.hid hI3
    replace hB4 := Lib.hid hB4
    replace hU3 := Lib.hid hU3
    replace hrow3 := Lib.hid hrow3
    replace hne := Lib.hid hne
    replace hak := Lib.hid hak
    replace hx3 := Lib.hid hx3
    replace hnO := Lib.hid hnO
    replace hll := Lib.hid hll
    go_region_law (refine step_append_row (f := rfCell) (M := [⟨n, a', c', P⟩]) _ rfl (.tmp 19) (.tmp 21) 33 rfl base 66 i4 (.agg #[.int .i64 0, .slice none 0 0]) 2 32 Try.underlying33 hi4 hz4 hs4 hy4 rfl (by decide) (.slice la LL.length lc) LL (by simp [Act.eval]) hR4.out (.slice (some ⟨w3.drew.heap.size, 0, none⟩) 1 1) (by simp [Act.eval]) hS4.out hlen4.out hby4.out hbs4.out ?_; intro a5 c5 w5 hrow hu hat; obtain ⟨y0, y1, y2, y3⟩ := hK4.out w5 hu; replace y0 := Lib.hid y0; replace hrow := Lib.hid hrow; replace hu := Lib.hid hu; replace hat := Lib.hid hat)
    all_goals
      go_wp2_with fail
      go_end0
      have hrow5 : Row base 66 2 rfCell w5 (.slice a5 (LL.length + 1) c5) (LL ++ [⟨n, a', c', P⟩]) := hrow.out
      have hat5 : (Value.slice a5 (LL.length + 1) c5).ownBlock = (Value.slice la LL.length lc).ownBlock ∨ (Value.slice a5 (LL.length + 1) c5).ownBlock = some (w3.drew.alloc (.cells #[.int .i64 n, .slice a' P.length c'] 66)).heap.size := hat.out
      have hs6 : Upd [wp] w5 (w5.setCell ⟨wp, 1, none⟩ (.slice a5 (LL.length + 1) c5)) := (Upd.refl _ _).setCell (p := ⟨wp, 1, none⟩) (by simp) _
      have hu5 := hu.out
      obtain ⟨n1, n2, n3, n4⟩ := hne.out
      have hwk : wp < k := by rw [← hkk.out]; exact hOk.out _ hwO
      have hlk : ∀ q, (Value.slice la LL.length lc).ownBlock = some q → q < k := fun q hq => by rw [← hkk.out]; exact hOk.out _ (hlO.out q hq)
      have hw4 := heap_lt hI4.out.blk
      have hsz4 : w.heap.size ≤ (w3.drew.alloc (.cells #[.int .i64 n, .slice a' P.length c'] 66)).heap.size := Nat.le_trans hU3.out.size hB4.out.size
      have hl5 : ∀ q, (Value.slice a5 (LL.length + 1) c5).ownBlock = some q → q ≠ wp := fun q hq => by
        rcases hat5 with h1 | h1
        · rw [h1] at hq; exact n2 q hq
        · rw [h1] at hq; injection hq with hq; subst hq; exact Nat.ne_of_gt hw4
      have hin : ∀ q, q ∈ (Value.slice la LL.length lc).ownBlock.toList → q ∈ O := fun q hq => hlO.out q (mem_own hq)
      have hblk : (w5.setCell ⟨wp, 1, none⟩ (.slice a5 (LL.length + 1) c5)).heap[wp]? = some (.cells #[.slice pa P.length pc, .slice a5 (LL.length + 1) c5] 35) := by rw [heap_set_same y0.out]; rfl
      have hnew : Row base 3 1 intCell (w5.setCell ⟨wp, 1, none⟩ (.slice a5 (LL.length + 1) c5)) (.slice a' P.length c') P :=
        ((hrow3.out.below hB4.out).upd hu5 (fun q hq hm => by have := hak.out q hq; have := hlk q (mem_own hm); omega)).upd hs6 (fun q hq hm => by have := hak.out q hq; simp at hm; omega)
      refine ⟨rfl, O ++ ((Value.slice a' P.length c').ownBlock.toList ++ (Value.slice a5 (LL.length + 1) c5).ownBlock.toList), ⟨_, _, LL ++ [⟨n, a', c', P⟩], ⟨hblk, (hI4.out.pr.upd hu5 (fun q hq hm => n4 q hq (mem_own hm))).upd hs6 (fun q hq hh => by simp at hh; exact n1 q hq hh), hrow5.upd hs6 (fun q hq hh => by simp at hh; exact hl5 q hq hh), fun r hr => ?_, hI4.out.wb⟩, ?_, List.mem_append_left _ hwO, fun q hq => List.mem_append_left _ (hpO.out q hq), fun q hq => ?_, fun r hr q hq => ?_, fun q hq => ?_⟩, ?_, fun q hq => ?_⟩
      · rcases List.mem_append.1 hr with hr | hr
        · exact ((hI4.out.ws r hr).upd hu5 (fun q hq hm => (n3 r hr q hq).2 (mem_own hm))).upd hs6 (fun q hq hh => by simp at hh; exact (n3 r hr q hq).1 hh)
        · simp at hr; subst hr; exact hnew
      · rw [List.map_append, hLL]; rfl
      · exact List.mem_append_right _ (List.mem_append_right _ (by rw [hq]; simp))
      · rcases List.mem_append.1 hr with hr | hr
        · exact List.mem_append_left _ (hrO.out r hr q hq)
        · simp at hr; subst hr
          exact List.mem_append_right _ (List.mem_append_left _ (by rw [show (Value.slice a' P.length c').ownBlock = some q from hq]; simp))
      · have hz5 : w.heap.size ≤ w5.heap.size := Nat.le_trans hsz4 hu5.size
        have hz6 := hs6.size
        rcases List.mem_append.1 hq with hq | hq
        · have := hO.out q hq; omega
        · rcases List.mem_append.1 hq with hq | hq
          · have := (hnew.lt q (mem_own hq)); exact this
          · have := hrow5.lt q (mem_own hq); omega
      · exact (((hU3.out.mono (by simp)).trans ((Upd.of_below (S := []) hB4.out).mono (by simp))).trans (hu5.mono hin)).trans (hs6.mono (fun q hq => by simp at hq; rw [hq]; exact hwO))
      · rcases List.mem_append.1 hq with hq | hq
        · exact .inl hq
        · rcases List.mem_append.1 hq with hq | hq
          · have := hak.out q (mem_own hq)
            have h0 := hkk.out
            exact .inr (by omega)
          · rcases hat5 with h1 | h1
            · exact .inl (hlO.out q (by rw [← h1]; exact mem_own hq))
            · have h2 := mem_own hq
              rw [h1] at h2
              injection h2 with h2
              exact .inr (by rw [← h2]; exact hsz4)
end Go.Proofs.Ytidiefcgepllmaa
