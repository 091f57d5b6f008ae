/- The document's pool of layer 2: Handles, NewPool. -/
import Derived.Test.YtoknkedmpdcinaaRef2R
namespace Go.Proofs.Ytoknkedmpdcinaa
open Go.RowKit
theorem handsR_len (k : Nat) (L : List Sl) : (handsR k L).length ≤ L.length := by
  unfold handsR
  rw [List.length_map]
  refine Nat.le_trans (List.length_filter_le _ _) ?_
  simp
def H2End (SL : List Sl) (k : Nat) (w : World) (e : Ending) (w' : World) : Prop := ∃ a c, e = .returned (.slice a (handsR k SL).length c) ∧ Row w.heap.size 40 2 hcell w' (.slice a (handsR k SL).length c) (handsR k SL) ∧ Below w.heap.size w w'
set_option maxRecDepth 100000 in
set_option maxHeartbeats 2000000 in
theorem r2Handles_any (b : Option Nat) (SL : List Sl) (k : Nat) (w : World) (h : Rf w b SL) (hl : SL.length ≤ 5000) : Calls Try.prog 31 #[rptr b, .int .i64 k] w (H2End SL k w) := by
  cases b with
  | none =>
    have : SL = [] := h
    subst this
    unfold rptr
    go_enter Try.func31, Try.ntmps31
    go_wp2_with fail
    go_loopg [5, 6] 0 (fun gk mv iv wr => mv = .slice none 0 0 ∧ iv = .int .i64 0 ∧ wr = w)
    case atStart => exact ⟨rfl, rfl, rfl⟩
    case round =>
      obtain ⟨rfl, rfl, rfl⟩ := hrel
      go_wp2_with fail
      go_ret
      exact ⟨none, 0, rfl, Row.nil (k := 2) (f := hcell) hcell_len hcell_one _ _ _, Below.refl _ _⟩
  | some b =>
    obtain ⟨a, c, d0, hbl⟩ := h.len
    replace h := Lib.hid h
    show Calls _ _ #[.pointer (some ⟨b, 0, none⟩), _] _ _
    go_enter Try.func31, Try.ntmps31
    go_wp2_with fail
    go_loopg [5, 6] SL.length (fun gk mv iv wr => ∃ i : Nat, gk = SL.length - i ∧ i ≤ SL.length ∧ iv = .int .i64 i ∧ (∃ am cm, mv = .slice am (handsR k (SL.take i)).length cm) ∧ Row w.heap.size 40 2 hcell wr mv (handsR k (SL.take i)) ∧ Below w.heap.size w wr)
    case atStart => exact ⟨0, rfl, Nat.zero_le _, rfl, ⟨none, 0, rfl⟩, Row.nil (k := 2) (f := hcell) hcell_len hcell_one _ _ _, Below.refl _ _⟩
    case round =>
      obtain ⟨i, rfl, hi, rfl, ⟨am, cm, rfl⟩, hR, hB⟩ := hrel
      have hR0 := h.out.below hB
      have e0 : wr.cell? ⟨b, 0, none⟩ = some (.slice a SL.length c) := keep hB d0
      by_cases hlt : i < SL.length
      · obtain ⟨s, hs⟩ : ∃ s, SL[i]? = some s := ⟨_, List.getElem?_eq_getElem hlt⟩
        obtain ⟨q, c', d1, hbl2, hq, _, g0, g1, g2⟩ := hR0.at hs
        rw [e0] at d1
        injection d1 with d1
        injection d1 with d1 _ d2
        subst d1 d2
        have hts : handsR k (SL.take (i + 1)) = handsR k (SL.take i) ++ (if s.who == k then [((i : Int), s.gen)] else []) := by
          rw [take_snoc hs, handsR_snoc, List.length_take, Nat.min_eq_left hi]
        have hll : (handsR k (SL.take i)).length ≤ 5000 := Nat.le_trans (handsR_len _ _) (by rw [List.length_take]; omega)
        generalize hM : handsR k (SL.take i) = M at *
        by_cases hw : s.who = k
        · have hw1 : ((s.who : Int) == (k : Int)) = true := by simp [hw]
          rw [if_pos (by simp [hw])] at hts
          have hb8 : Below wr.heap.size wr (wr.alloc (.cells #[.int .i64 i, .int .u64 s.gen] 40)) := (Below.refl _ _).alloc (Nat.le_refl _) _
          have hbs := hB.size
          have hR8 := Lib.hid (hR.below hb8)
          have hB8 := Lib.hid (hB.trans (hb8.mono hbs))
          have hbs8 := Lib.hid (Nat.le_trans hbs hb8.size)
          have hS8 : SrcOf (wr.alloc (.cells #[.int .i64 i, .int .u64 s.gen] 40)) (.slice (some ⟨wr.heap.size, 0, none⟩) 1 1) 1 2 ([((i : Int), s.gen)].flatMap hcell) := SrcOf.one wr 40 (hcell ((i : Int), s.gen)) (hcell_one _)
          replace hS8 := Lib.hid hS8
          obtain ⟨ii, hi8, hz8, hs8, hy8⟩ := hand_info
          have hl8 : M.length + 1 ≤ maxLen := by unfold maxLen; omega
          have hy9 : (M.length + 1) * 16 ≤ 140737488355328 := by omega
          replace hi8 := Lib.hid hi8
          replace hz8 := Lib.hid hz8
          replace hs8 := Lib.hid hs8
          replace hy8 := Lib.hid hy8
          replace hb8 := Lib.hid hb8
          replace hl8 := Lib.hid hl8
          replace hy9 := Lib.hid hy9
          replace hB := Lib.hid hB
          replace hR := Lib.hid hR
          replace hbs := Lib.hid hbs
          replace hs := Lib.hid hs
          replace hts := Lib.hid hts
          replace hM := Lib.hid hM
          replace hR0 := Lib.hid hR0
          clear hw
          go_wp2_with (at_builtin; refine wpList_append_row (f := hcell) (M := [((i : Int), s.gen)]) _ rfl _ _ 61 rfl w.heap.size 40 ii (.agg #[.int .i64 0, .int .u64 0]) 2 16 Try.underlying61 hi8.out hz8.out hs8.out hy8.out rfl (by decide) (.slice am M.length cm) M rfl hR8.out (.slice (some ⟨wr.heap.size, 0, none⟩) 1 1) rfl hS8.out hl8.out hy9.out hbs8.out ?_; intro a9 c9 w9 hrow hu hat; replace hrow := Lib.hid hrow; have hB9 := Lib.hid (hB8.out.trans (hu.below hbs8.out (fun k hk => (hR8.out.lt k (mem_own hk)).1))); clear hu hat)
          go_roundg (SL.length - (i + 1))
          case measure => omega
          case rel => exact ⟨i + 1, rfl, by omega, by go_num, ⟨a9, c9, by rw [hts.out]; simp⟩, by rw [hts.out]; exact hrow.out, hB9.out⟩
        · have hw1 : ((s.who : Int) == (k : Int)) = false := by simp; omega
          rw [if_neg (by simpa using hw), List.append_nil] at hts
          replace hB := Lib.hid hB
          replace hR := Lib.hid hR
          replace hs := Lib.hid hs
          replace hts := Lib.hid hts
          replace hM := Lib.hid hM
          replace hR0 := Lib.hid hR0
          clear hw
          go_wp2_with fail
          go_roundg (SL.length - (i + 1))
          case measure => omega
          case rel => exact ⟨i + 1, rfl, by omega, by go_num, ⟨am, cm, by rw [hts.out]⟩, by rw [hts.out]; exact hR.out, hB.out⟩
      · obtain rfl : i = SL.length := by omega
        have hbl2 : b < wr.heap.size := block_lt_of_cell e0
        rw [List.take_length] at hR ⊢
        replace hR := Lib.hid hR
        replace hB := Lib.hid hB
        replace hR0 := Lib.hid hR0
        go_wp2_with fail
        go_ret
        exact ⟨am, cm, rfl, hR.out, hB.out⟩
theorem sl_info : ∃ i0 : TypeInfo, Try.prog.info? 110 = some i0 ∧ i0.zero = some (.agg #[.int .u64 0, .int .i64 0, .string ⟨#[]⟩]) ∧ i0.size = 3 ∧ i0.bytes = 32 := info_parts (show (Try.prog.info? 110).map (fun i => (i.zero, i.size, i.bytes)) = some (some (.agg #[.int .u64 0, .int .i64 0, .string ⟨#[]⟩]), 3, 32) by kernel_rfl)
theorem r2NewPool_bad (n : Int) (w : World) (h : n < 1 ∨ 4096 < n) : Calls Try.prog 26 #[.int .i64 n] w fun e w' => e = .returned (.tuple #[.pointer none, .int .i64 1]) ∧ w = w' := by
  by_cases h1 : n < 1
  · go_enter Try.func26, Try.ntmps26
    go_wp2_with fail
    go_ret2
    exact ⟨rfl, rfl⟩
  · have h2 : 4096 < n := by omega
    go_enter Try.func26, Try.ntmps26
    go_wp2_with fail
    go_ret2
    exact ⟨rfl, rfl⟩
theorem own_at2 {v v' : Value} {n : Nat} (h : v'.ownBlock = v.ownBlock ∨ v'.ownBlock = some n) : ∀ q, v'.ownBlock = some q → v.ownBlock = some q ∨ n ≤ q := by
  intro q hq
  rcases h with h | h
  · exact .inl (by rw [← h]; exact hq)
  · rw [h] at hq; injection hq with hq; subst hq; exact .inr (Nat.le_refl _)
def slot1 : Sl := ⟨1, 0, ⟨#[]⟩⟩
def N2End (n : Nat) (w : World) (e : Ending) (w' : World) : Prop := ∃ a c, e = .returned (.tuple #[.pointer (some ⟨w.heap.size, 0, none⟩), .int .i64 0]) ∧ RfQ w' w.heap.size a c (List.replicate n slot1) ∧ Below w.heap.size w w' ∧ ∀ q, (Value.slice a (List.replicate n slot1).length c).ownBlock = some q → w.heap.size < q
set_option maxRecDepth 100000 in
set_option maxHeartbeats 2000000 in
theorem r2NewPool_some (n : Nat) (w : World) (h0 : 1 ≤ n) (h1 : n ≤ 4096) : Calls Try.prog 26 #[.int .i64 n] w (N2End n w) := by
  go_enter Try.func26, Try.ntmps26
  go_wp2_with fail
  go_loopg [5] n (fun gk iv wr => ∃ (i : Nat) (a : Option Addr) (c : Nat), gk = n - i ∧ i ≤ n ∧ iv = .int .i64 i ∧ RfQ wr w.heap.size a c (List.replicate i slot1) ∧ Below w.heap.size w wr ∧ ∀ q, (Value.slice a (List.replicate i slot1).length c).ownBlock = some q → w.heap.size < q)
  case atStart =>
    exact ⟨0, none, 0, rfl, Nat.zero_le _, rfl, ⟨heap_alloc_new _ _, Row.nil (k := 3) (f := slCell) slCell_len slCell_one _ _ _⟩, (Below.refl _ _).alloc (Nat.le_refl _) _, by simp [Value.ownBlock]⟩
  case round =>
    obtain ⟨i, a, c, rfl, hi, rfl, hR, hB, hq⟩ := hrel
    have d0 : wr.cell? ⟨w.heap.size, 0, none⟩ = some (.slice a (List.replicate i slot1).length c) := by rw [cell_of_heap hR.blk]; rfl
    have hbl := heap_lt hR.blk
    have hlen : (List.replicate i slot1).length = i := List.length_replicate
    by_cases hlt : i < n
    · have hb8 : Below wr.heap.size wr (wr.alloc (.cells #[.int .u64 1, .int .i64 0, .string ⟨#[]⟩] 110)) := (Below.refl _ _).alloc (Nat.le_refl _) _
      have hR8 := Lib.hid (hR.upd (Upd.of_below (S := []) hb8) (by simp) (by simp))
      have hS8 : SrcOf (wr.alloc (.cells #[.int .u64 1, .int .i64 0, .string ⟨#[]⟩] 110)) (.slice (some ⟨wr.heap.size, 0, none⟩) 1 1) 1 3 ([slot1].flatMap slCell) := SrcOf.one wr 110 (slCell slot1) (slCell_one _)
      replace hS8 := Lib.hid hS8
      obtain ⟨ii, hi8, hz8, hs8, hy8⟩ := sl_info
      have hl8 : (List.replicate i slot1).length + 1 ≤ maxLen := by unfold maxLen; omega
      have hy9 : ((List.replicate i slot1).length + 1) * 32 ≤ 140737488355328 := by omega
      have hK : Hid (∀ w9, Upd (Value.slice a (List.replicate i slot1).length c).ownBlock.toList (wr.alloc (.cells #[.int .u64 1, .int .i64 0, .string ⟨#[]⟩] 110)) w9 → w9.heap[w.heap.size]? = some (.cells #[.slice a (List.replicate i slot1).length c] 77)) := Lib.hid (fun w9 hu => hu.heap hR8.out.blk (fun hh => by have := hq _ (mem_own hh); omega))
      generalize hL : List.replicate i slot1 = L at *
      replace hi8 := Lib.hid hi8
      replace hz8 := Lib.hid hz8
      replace hs8 := Lib.hid hs8
      replace hy8 := Lib.hid hy8
      replace hl8 := Lib.hid hl8
      replace hy9 := Lib.hid hy9
      replace hR := Lib.hid hR
      have hB8 := Lib.hid (hB.trans (hb8.mono hB.size))
      replace hB := Lib.hid hB
      replace hb8 := Lib.hid hb8
      replace hq := Lib.hid hq
      replace hL := Lib.hid hL
      replace hlen := Lib.hid hlen
      go_wp2_with (at_builtin; refine wpList_append_row (f := slCell) (M := [slot1]) _ rfl _ _ 75 rfl 0 110 ii (.agg #[.int .u64 0, .int .i64 0, .string ⟨#[]⟩]) 3 32 Try.underlying75 hi8.out hz8.out hs8.out hy8.out rfl (by decide) (.slice a L.length c) L rfl hR8.out.row (.slice (some ⟨wr.heap.size, 0, none⟩) 1 1) rfl hS8.out hl8.out hy9.out (Nat.zero_le _) ?_; intro a9 c9 w9 hrow hu hat; have hk9 := hK.out w9 hu; have y0 : w9.cell? ⟨w.heap.size, 0, none⟩ = some (.slice a L.length c) := (by rw [cell_of_heap hk9]; rfl); have y1 : w9.frozen? ⟨w.heap.size, 0, none⟩ = false := frozen_of_heap hk9 _; have y2 := heap_lt hk9; replace hk9 := Lib.hid hk9; replace hrow := Lib.hid hrow; replace hu := Lib.hid hu; replace hat := Lib.hid hat)
      go_roundg (n - (i + 1))
      case measure => omega
      case rel =>
        have hn9 : ∀ q, (Value.slice a9 (L.length + 1) c9).ownBlock = some q → w.heap.size < q := fun q hq9 => by
          rcases own_at2 hat.out q hq9 with h3 | h3
          · exact hq.out q h3
          · simp at h3; omega
        have e1 : List.replicate (i + 1) slot1 = L ++ [slot1] := by rw [List.replicate_succ', hL.out]
        have hs : Upd [w.heap.size] w9 (w9.setCell ⟨w.heap.size, 0, none⟩ (.slice a9 (L.length + 1) c9)) := (Upd.refl _ _).setCell (p := ⟨w.heap.size, 0, none⟩) (by simp) _
        refine ⟨i + 1, a9, c9, rfl, by omega, by go_num, ⟨?_, ?_⟩, ?_, ?_⟩
        · rw [e1, heap_set_same hk9.out]; simp
        · rw [e1, List.length_append]
          exact hrow.out.upd hs (fun q hq9 hh => by simp at hh; have := hn9 q hq9; omega)
        · exact (hB8.out.trans (hu.out.below hB8.out.size (fun k hk => Nat.le_of_lt (hq.out k (mem_own hk))))).setCell (p := ⟨w.heap.size, 0, none⟩) (Nat.le_refl _) _
        · rw [e1, List.length_append]; exact hn9
    · obtain rfl : i = n := by omega
      replace hR := Lib.hid hR
      replace hB := Lib.hid hB
      replace hq := Lib.hid hq
      replace hlen := Lib.hid hlen
      go_wp2_with fail
      go_ret2
      exact ⟨a, c, rfl, hR.out, hB.out, hq.out⟩
end Go.Proofs.Ytoknkedmpdcinaa
