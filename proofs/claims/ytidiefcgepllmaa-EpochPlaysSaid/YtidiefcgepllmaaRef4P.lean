/- The document's Epoch: Pin. -/
import Derived.Test.YtidiefcgepllmaaRef4U
namespace Go.Proofs.Ytidiefcgepllmaa
open Go.RowKit
/-- Where a number goes. -/
def cutAt (P : List Int) (t : Int) : Nat := (P.takeWhile fun y => decide (y < t)).length
theorem cutAt_le (P : List Int) (t : Int) : cutAt P t ≤ P.length := (List.takeWhile_sublist _).length_le
theorem cutAt_eq {P : List Int} {t : Int} {i : Nat} (hi : i ≤ P.length) (h1 : ∀ j y, j < i → P[j]? = some y → y < t) (h2 : ∀ y, P[i]? = some y → ¬ y < t) : cutAt P t = i := by
  unfold cutAt
  induction P generalizing i with
  | nil => simp at hi; simp [hi]
  | cons a l ih =>
    cases i with
    | zero =>
      have := h2 a rfl
      simp [List.takeWhile_cons, this]
    | succ i =>
      have h3 := h1 0 a (by omega) rfl
      have h4 := ih (i := i) (by simpa using hi) (fun j y hj hy => h1 (j + 1) y (by omega) (by simpa using hy)) (fun y hy => h2 y (by simpa using hy))
      simp [List.takeWhile_cons, h3, h4]
theorem src_none (w : World) : SrcOf w (.slice none 0 0) ([] : List Int).length 1 (([] : List Int).flatMap intCell) := ⟨rfl, by simp, .inl ⟨rfl, rfl⟩⟩
theorem src_nil (w : World) (ad : Addr) (c : Nat) : SrcOf w (.slice (some ad) 0 c) ([] : List Int).length 1 (([] : List Int).flatMap intCell) := ⟨rfl, by simp, .inr ⟨ad, c, rfl, fun j y hj => by simp at hj⟩⟩
set_option maxRecDepth 100000 in
set_option maxHeartbeats 2000000 in
theorem rPin_any (base wp : Nat) (P : List Int) (L : List (Int × List Int)) (O : List Nat) (t : Int) (w : World) (h : RefJ base wp P L O w) (hP : P.length ≤ 100000) (hnew : t ∉ P) :
    Calls Try.prog 19 #[.pointer (some ⟨wp, 0, none⟩), .int .i64 t] w fun z w' => z = .returned (.bool true) ∧ RefEnd base wp (P.take (cutAt P t) ++ t :: P.drop (cutAt P t)) L O w w' := by
  obtain ⟨pv, d0, hrow, hK⟩ := h.pin
  obtain ⟨pa, pc, e1⟩ := hrow.shape
  subst e1
  have hc1 := Lib.hid (has_any base _ P t w hrow hP)
  rw [decide_eq_false hnew] at hc1
  have hlow := h.low.2
  replace hK := Lib.hid hK
  replace h := Lib.hid h
  replace hrow := Lib.hid hrow
  go_enter Try.func19, Try.ntmps19
  go_wp2_with fail
  refine hc1.out.mono ?_
  clear hc1
  rintro z w0 ⟨rfl, rfl⟩
  go_wp2_with fail
  go_loopg [5] P.length (fun gk iv wr => ∃ i : Nat, gk = P.length - i ∧ i ≤ P.length ∧ iv = .int .i64 i ∧ wr = w0 ∧ ∀ j y, j < i → P[j]? = some y → y < t)
  case atStart => exact ⟨0, rfl, Nat.zero_le _, rfl, rfl, fun j y hj => by omega⟩
  case round =>
    obtain ⟨i, rfl, hi, rfl, rfl, hall⟩ := hrel
    replace hall := Lib.hid hall
    by_cases hlt : i < P.length
    · obtain ⟨y, hy⟩ : ∃ y, P[i]? = some y := ⟨_, List.getElem?_eq_getElem hlt⟩
      obtain ⟨b', cap', he, _, _, _, _, _, _, hcell⟩ := hrow.out.at hy
      have h0 := hcell 0 _ rfl
      obtain ⟨rfl, rfl⟩ : pa = some ⟨b', 0, none⟩ ∧ pc = cap' := by injection he with h1 h2 h3; exact ⟨h1, h3⟩
      rw [Nat.mul_one, Nat.add_zero] at h0
      replace hy := Lib.hid hy
      clear hcell he
      by_cases hyt : y < t
      · go_wp2_with fail
        go_roundg (P.length - (i + 1))
        case measure => omega
        case rel =>
          exact ⟨i + 1, rfl, by omega, by go_num, rfl, fun j z hj hz => by
            by_cases hji : j = i
            · subst hji; rw [hy.out] at hz; injection hz with hz; omega
            · exact hall.out j z (by omega) hz⟩
      · go_upto_region 7 with fail
        have hlen1 : (P.take i).length = i := by rw [List.length_take]; omega
        have hS7 : SrcOf wr (.slice (some ⟨b', 0, none⟩) i pc) (P.take i).length 1 ((P.take i).flatMap intCell) := by rw [hlen1]; exact hrow.out.head i pc hi
        have hnil := Lib.hid (Row.nil (f := intCell) (fun _ => rfl) intCell_one wr.heap.size 3 wr)
        obtain ⟨ii, hi8, hz8, hs8, hy8⟩ := int_infoR
        have hl7 : ([] : List Int).length + (P.take i).length ≤ maxLen := by unfold maxLen; rw [hlen1]; simp; omega
        have hb7 : (([] : List Int).length + (P.take i).length) * 8 ≤ 140737488355328 := by rw [hlen1]; simp; omega
        replace hS7 := Lib.hid hS7
        replace hl7 := Lib.hid hl7
        replace hb7 := Lib.hid hb7
        replace hlen1 := Lib.hid hlen1
        replace hi8 := Lib.hid hi8
        replace hz8 := Lib.hid hz8
        replace hs8 := Lib.hid hs8
        replace hy8 := Lib.hid hy8
        go_upto_region 8 with (at_builtin; refine wpList_append_row (f := intCell) (M := P.take i) _ rfl _ _ 27 rfl wr.heap.size 3 ii (.int .i64 0) 1 8 Try.underlying27 hi8.out hz8.out hs8.out hy8.out rfl (by decide) (.slice none 0 0) [] rfl hnil.out (.slice (some ⟨b', 0, none⟩) i pc) rfl hS7.out hl7.out hb7.out (Nat.le_refl _) ?_; intro a7 c7 w7 hrow7 hu7 hat7; replace hrow7 := Lib.hid hrow7; replace hu7 := Lib.hid hu7; clear hat7)
        have hR7 : Row wr.heap.size 3 1 intCell w7 (.slice a7 i c7) (P.take i) := by
          have := hrow7.out
          simpa only [List.length_nil, Nat.zero_add, List.nil_append, hlen1.out] using this
        have hB7 : Below wr.heap.size wr w7 := hu7.out.below (Nat.le_refl _) (by simp [Value.ownBlock])
        have hb8 : Below w7.heap.size w7 (w7.alloc (.cells #[.int .i64 t] 3)) := (Below.refl _ _).alloc (Nat.le_refl _) _
        have hR8 := Lib.hid (hR7.below hb8)
        have hB8 := Lib.hid (hB7.trans (hb8.mono hB7.size))
        have hS8 := Lib.hid (show SrcOf (w7.alloc (.cells #[.int .i64 t] 3)) (.slice (some ⟨w7.heap.size, 0, none⟩) 1 1) 1 1 ([t].flatMap intCell) from SrcOf.one w7 3 (intCell t) (intCell_one t))
        have hi1 : (P.take i).length ≤ 100000 := by rw [hlen1.out]; omega
        have hbs8 := Lib.hid (Nat.le_trans hB7.size hb8.size)
        replace hb8 := Lib.hid hb8
        replace hB7 := Lib.hid hB7
        replace hi1 := Lib.hid hi1
        clear hR7 hrow7 hu7
        go_upto_region 9 with (at_builtin; refine wpList_append_row (f := intCell) (M := [t]) _ rfl _ _ 27 rfl wr.heap.size 3 ii (.int .i64 0) 1 8 Try.underlying27 hi8.out hz8.out hs8.out hy8.out rfl (by decide) (.slice a7 i c7) (P.take i) rfl hR8.out (.slice (some ⟨w7.heap.size, 0, none⟩) 1 1) rfl hS8.out (len1_ok hi1.out) (len1_ok8 hi1.out) hbs8.out ?_; intro a8 c8 w8 hrow8 hu8 hat8; replace hrow8 := Lib.hid hrow8; replace hu8 := Lib.hid hu8; clear hat8)
        have hR9 : Row wr.heap.size 3 1 intCell w8 (.slice a8 (i + 1) c8) (P.take i ++ [t]) := by
          have := hrow8.out
          simpa only [List.length_cons, List.length_nil, Nat.zero_add, hlen1.out] using this
        have hB9 : Below wr.heap.size wr w8 := hB8.out.trans (hu8.out.below hbs8.out (fun k hk => (hR8.out.lt k (mem_own hk)).1))
        obtain ⟨q1, q2, q3⟩ := hK.out w8 hB9
        have hpl : P.length ≤ pc := by
          rcases hrow.out.cases with ⟨h0, _⟩ | ⟨_, _, h0, _, _, _, h5, _⟩
          · cases h0
          · simp at h0; omega
        have hpc : ¬ pc = i := by omega
        have hS9 := (hrow.out.below hB9).tail i hi
        rw [if_neg hpc, Nat.mul_one] at hS9
        have hi9 : (P.take i ++ [t]).length + (P.drop i).length ≤ 100001 := by simp; omega
        have hl9 : (P.take i ++ [t]).length + (P.drop i).length ≤ maxLen := by unfold maxLen; omega
        have hb9 : ((P.take i ++ [t]).length + (P.drop i).length) * 8 ≤ 140737488355328 := by omega
        have hbs9 := Lib.hid hB9.size
        replace hS9 := Lib.hid hS9
        replace hR9 := Lib.hid hR9
        replace hB9 := Lib.hid hB9
        replace hi9 := Lib.hid hi9
        replace hl9 := Lib.hid hl9
        replace hb9 := Lib.hid hb9
        clear hR8 hB8 hrow8 hu8 hS8 hS7
        go_wp2_with (at_builtin; refine wpList_append_row (f := intCell) (M := P.drop i) _ rfl _ _ 27 rfl wr.heap.size 3 ii (.int .i64 0) 1 8 Try.underlying27 hi8.out hz8.out hs8.out hy8.out rfl (by decide) (.slice a8 (i + 1) c8) (P.take i ++ [t]) rfl hR9.out (.slice (some ⟨b', i, none⟩) (P.length - i) (pc - i)) rfl hS9.out hl9.out hb9.out hbs9.out ?_; intro a9 c9 w9 hrow9 hu9 hat9; have hB10 := hB9.out.trans (hu9.below hbs9.out (fun k hk => (hR9.out.lt k (mem_own hk)).1)); obtain ⟨z1, z2, z3⟩ := hK.out w9 hB10; have hE := Lib.hid (h.out.setPin hB10 hrow9); clear hrow9 hu9 hat9 hB10)
        go_ret
        refine ⟨rfl, ?_⟩
        have := hE.out
        rw [List.append_assoc, List.singleton_append] at this
        have hq : (P.take i ++ [t]).length + (P.drop i).length = i + 1 + (P.length - i) := by simp; omega
        rw [hq] at this
        rw [cutAt_eq hi hall.out (fun z hz => by rw [hy.out] at hz; injection hz with hz; omega)]
        exact this
    · have hcut : cutAt P t = i := cutAt_eq hi hall.out (fun z hz => by have := (List.getElem?_eq_some_iff.1 hz).1; omega)
      have hil : i = P.length := by omega
      replace hcut := Lib.hid hcut
      rcases hrow.out.cases with ⟨h0, hPn⟩ | ⟨b', cap', h0, _, _, _, h5, _⟩
      · subst hPn
        obtain ⟨rfl, rfl⟩ : pa = none ∧ pc = 0 := by injection h0 with h1 h2 h3; exact ⟨h1, h3⟩
        obtain rfl : i = 0 := hil
        go_upto_region 7 with fail
        have hS7 : SrcOf wr (.slice none 0 0) 0 1 (([] : List Int).flatMap intCell) := ⟨rfl, by simp, .inl ⟨rfl, rfl⟩⟩
        have hnil := Lib.hid (Row.nil (f := intCell) (fun _ => rfl) intCell_one wr.heap.size 3 wr)
        obtain ⟨ii, hi8, hz8, hs8, hy8⟩ := int_infoR
        have hl7 : ([] : List Int).length + (([] : List Int)).length ≤ maxLen := by unfold maxLen; simp <;> omega
        have hb7 : (([] : List Int).length + (([] : List Int)).length) * 8 ≤ 140737488355328 := by simp <;> omega
        replace hS7 := Lib.hid hS7
        replace hl7 := Lib.hid hl7
        replace hb7 := Lib.hid hb7
        replace hi8 := Lib.hid hi8
        replace hz8 := Lib.hid hz8
        replace hs8 := Lib.hid hs8
        replace hy8 := Lib.hid hy8
        go_upto_region 8 with (at_builtin; refine wpList_append_row (f := intCell) (M := ([] : List Int)) _ rfl _ _ 27 rfl wr.heap.size 3 ii (.int .i64 0) 1 8 Try.underlying27 hi8.out hz8.out hs8.out hy8.out rfl (by decide) (.slice none 0 0) [] rfl hnil.out (.slice none 0 0) rfl hS7.out hl7.out hb7.out (Nat.le_refl _) ?_; intro a7 c7 w7 hrow7 hu7 hat7; replace hrow7 := Lib.hid hrow7; replace hu7 := Lib.hid hu7; clear hat7)
        have hR7 : Row wr.heap.size 3 1 intCell w7 (.slice a7 0 c7) (([] : List Int)) := by
          have := hrow7.out
          simpa only [List.length_nil, Nat.zero_add, List.nil_append] using this
        have hB7 : Below wr.heap.size wr w7 := hu7.out.below (Nat.le_refl _) (by simp [Value.ownBlock])
        have hb8 : Below w7.heap.size w7 (w7.alloc (.cells #[.int .i64 t] 3)) := (Below.refl _ _).alloc (Nat.le_refl _) _
        have hR8 := Lib.hid (hR7.below hb8)
        have hB8 := Lib.hid (hB7.trans (hb8.mono hB7.size))
        have hS8 := Lib.hid (show SrcOf (w7.alloc (.cells #[.int .i64 t] 3)) (.slice (some ⟨w7.heap.size, 0, none⟩) 1 1) 1 1 ([t].flatMap intCell) from SrcOf.one w7 3 (intCell t) (intCell_one t))
        have hi1 : (([] : List Int)).length ≤ 100000 := by omega
        have hbs8 := Lib.hid (Nat.le_trans hB7.size hb8.size)
        replace hb8 := Lib.hid hb8
        replace hB7 := Lib.hid hB7
        replace hi1 := Lib.hid hi1
        clear hR7 hrow7 hu7
        go_upto_region 9 with (at_builtin; refine wpList_append_row (f := intCell) (M := [t]) _ rfl _ _ 27 rfl wr.heap.size 3 ii (.int .i64 0) 1 8 Try.underlying27 hi8.out hz8.out hs8.out hy8.out rfl (by decide) (.slice a7 0 c7) (([] : List Int)) rfl hR8.out (.slice (some ⟨w7.heap.size, 0, none⟩) 1 1) rfl hS8.out (len1_ok hi1.out) (len1_ok8 hi1.out) hbs8.out ?_; intro a8 c8 w8 hrow8 hu8 hat8; replace hrow8 := Lib.hid hrow8; replace hu8 := Lib.hid hu8; clear hat8)
        have hR9 : Row wr.heap.size 3 1 intCell w8 (.slice a8 (0 + 1) c8) (([] : List Int) ++ [t]) := by
          have := hrow8.out
          simpa only [List.length_cons, List.length_nil, Nat.zero_add] using this
        have hB9 : Below wr.heap.size wr w8 := hB8.out.trans (hu8.out.below hbs8.out (fun k hk => (hR8.out.lt k (mem_own hk)).1))
        obtain ⟨q1, q2, q3⟩ := hK.out w8 hB9
        have hl9 := Lib.hid (show (([] : List Int) ++ [t]).length + ([] : List Int).length ≤ maxLen by unfold maxLen; simp <;> omega)
        have hb9 := Lib.hid (show ((([] : List Int) ++ [t]).length + ([] : List Int).length) * 8 ≤ 140737488355328 by simp <;> omega)
        have hbs9 := Lib.hid hB9.size
        replace hR9 := Lib.hid hR9
        replace hB9 := Lib.hid hB9
        clear hR8 hB8 hrow8 hu8 hS8 hS7
        skip
        all_goals
          go_wp2_with (at_builtin; refine wpList_append_row (f := intCell) (M := []) _ rfl _ _ 27 rfl wr.heap.size 3 ii (.int .i64 0) 1 8 Try.underlying27 hi8.out hz8.out hs8.out hy8.out rfl (by decide) (.slice a8 (0 + 1) c8) (([] : List Int) ++ [t]) rfl hR9.out _ rfl (src_none _) hl9.out hb9.out hbs9.out ?_; intro a9 c9 w9 hrow9 hu9 hat9; have hB10 := hB9.out.trans (hu9.below hbs9.out (fun k hk => (hR9.out.lt k (mem_own hk)).1)); obtain ⟨z1, z2, z3⟩ := hK.out w9 hB10; have hE := Lib.hid (h.out.setPin hB10 hrow9); clear hrow9 hu9 hat9 hB10)
          go_ret
          refine ⟨rfl, ?_⟩
          have := hE.out
          have hq : (([] : List Int) ++ [t]).length + ([] : List Int).length = 0 + 1 := by simp
          rw [hq, List.append_nil] at this
          exact this
      · obtain ⟨rfl, rfl⟩ : pa = some ⟨b', 0, none⟩ ∧ pc = cap' := by injection h0 with h1 h2 h3; exact ⟨h1, h3⟩
        clear h0
        subst hil
        go_upto_region 7 with fail
        have hS7 : SrcOf wr (.slice (some ⟨b', 0, none⟩) P.length pc) P.length 1 (P.flatMap intCell) := hrow.out.src
        have hnil := Lib.hid (Row.nil (f := intCell) (fun _ => rfl) intCell_one wr.heap.size 3 wr)
        obtain ⟨ii, hi8, hz8, hs8, hy8⟩ := int_infoR
        have hl7 : ([] : List Int).length + (P).length ≤ maxLen := by unfold maxLen; simp; omega
        have hb7 : (([] : List Int).length + (P).length) * 8 ≤ 140737488355328 := by simp; omega
        replace hS7 := Lib.hid hS7
        replace hl7 := Lib.hid hl7
        replace hb7 := Lib.hid hb7
        replace hi8 := Lib.hid hi8
        replace hz8 := Lib.hid hz8
        replace hs8 := Lib.hid hs8
        replace hy8 := Lib.hid hy8
        go_upto_region 8 with (at_builtin; refine wpList_append_row (f := intCell) (M := P) _ rfl _ _ 27 rfl wr.heap.size 3 ii (.int .i64 0) 1 8 Try.underlying27 hi8.out hz8.out hs8.out hy8.out rfl (by decide) (.slice none 0 0) [] rfl hnil.out (.slice (some ⟨b', 0, none⟩) P.length pc) rfl hS7.out hl7.out hb7.out (Nat.le_refl _) ?_; intro a7 c7 w7 hrow7 hu7 hat7; replace hrow7 := Lib.hid hrow7; replace hu7 := Lib.hid hu7; clear hat7)
        have hR7 : Row wr.heap.size 3 1 intCell w7 (.slice a7 P.length c7) (P) := by
          have := hrow7.out
          simpa only [List.length_nil, Nat.zero_add, List.nil_append] using this
        have hB7 : Below wr.heap.size wr w7 := hu7.out.below (Nat.le_refl _) (by simp [Value.ownBlock])
        have hb8 : Below w7.heap.size w7 (w7.alloc (.cells #[.int .i64 t] 3)) := (Below.refl _ _).alloc (Nat.le_refl _) _
        have hR8 := Lib.hid (hR7.below hb8)
        have hB8 := Lib.hid (hB7.trans (hb8.mono hB7.size))
        have hS8 := Lib.hid (show SrcOf (w7.alloc (.cells #[.int .i64 t] 3)) (.slice (some ⟨w7.heap.size, 0, none⟩) 1 1) 1 1 ([t].flatMap intCell) from SrcOf.one w7 3 (intCell t) (intCell_one t))
        have hi1 : (P).length ≤ 100000 := by omega
        have hbs8 := Lib.hid (Nat.le_trans hB7.size hb8.size)
        replace hb8 := Lib.hid hb8
        replace hB7 := Lib.hid hB7
        replace hi1 := Lib.hid hi1
        clear hR7 hrow7 hu7
        go_upto_region 9 with (at_builtin; refine wpList_append_row (f := intCell) (M := [t]) _ rfl _ _ 27 rfl wr.heap.size 3 ii (.int .i64 0) 1 8 Try.underlying27 hi8.out hz8.out hs8.out hy8.out rfl (by decide) (.slice a7 P.length c7) (P) rfl hR8.out (.slice (some ⟨w7.heap.size, 0, none⟩) 1 1) rfl hS8.out (len1_ok hi1.out) (len1_ok8 hi1.out) hbs8.out ?_; intro a8 c8 w8 hrow8 hu8 hat8; replace hrow8 := Lib.hid hrow8; replace hu8 := Lib.hid hu8; clear hat8)
        have hR9 : Row wr.heap.size 3 1 intCell w8 (.slice a8 (P.length + 1) c8) (P ++ [t]) := by
          have := hrow8.out
          simpa only [List.length_cons, List.length_nil, Nat.zero_add] using this
        have hB9 : Below wr.heap.size wr w8 := hB8.out.trans (hu8.out.below hbs8.out (fun k hk => (hR8.out.lt k (mem_own hk)).1))
        obtain ⟨q1, q2, q3⟩ := hK.out w8 hB9
        have hl9 := Lib.hid (show (P ++ [t]).length + ([] : List Int).length ≤ maxLen by unfold maxLen; simp; omega)
        have hb9 := Lib.hid (show ((P ++ [t]).length + ([] : List Int).length) * 8 ≤ 140737488355328 by simp; omega)
        have hbs9 := Lib.hid hB9.size
        replace hR9 := Lib.hid hR9
        replace hB9 := Lib.hid hB9
        clear hR8 hB8 hrow8 hu8 hS8 hS7
        by_cases hpc : pc = P.length
        all_goals
          go_wp2_with (at_builtin; refine wpList_append_row (f := intCell) (M := []) _ rfl _ _ 27 rfl wr.heap.size 3 ii (.int .i64 0) 1 8 Try.underlying27 hi8.out hz8.out hs8.out hy8.out rfl (by decide) (.slice a8 (P.length + 1) c8) (P ++ [t]) rfl hR9.out _ rfl (src_nil _ _ _) hl9.out hb9.out hbs9.out ?_; intro a9 c9 w9 hrow9 hu9 hat9; have hB10 := hB9.out.trans (hu9.below hbs9.out (fun k hk => (hR9.out.lt k (mem_own hk)).1)); obtain ⟨z1, z2, z3⟩ := hK.out w9 hB10; have hE := Lib.hid (h.out.setPin hB10 hrow9); clear hrow9 hu9 hat9 hB10)
          go_ret
          refine ⟨rfl, ?_⟩
          have := hE.out
          have hq : (P ++ [t]).length + ([] : List Int).length = P.length + 1 := by simp
          rw [hq, List.append_nil] at this
          rw [hcut.out, List.take_length, List.drop_length]
          exact this
end Go.Proofs.Ytidiefcgepllmaa
