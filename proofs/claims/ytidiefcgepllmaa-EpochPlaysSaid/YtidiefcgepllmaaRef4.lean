/- The document's functions of layer 4: has, without. -/
import Derived.Test.YtidiefcgepllmaaEpochAwake
import Derived.Test.YtidiefcgepllmaaRowSet
import Derived.Deep.LoopGhost
namespace Go.Proofs.Ytidiefcgepllmaa
open Go.RowKit
theorem intCell_one (x : Int) : ∀ y ∈ intCell x, y.oneCell' = true := by
  intro y hy
  simp at hy
  subst hy
  rfl
theorem int_infoR : ∃ i0 : TypeInfo, Try.prog.info? 3 = some i0 ∧ i0.zero = some (.int .i64 0) ∧ i0.size = 1 ∧ i0.bytes = 8 := info_parts (show (Try.prog.info? 3).map (fun i => (i.zero, i.size, i.bytes)) = some (some (.int .i64 0), 1, 8) by kernel_rfl)
theorem len1_ok {n : Nat} (h : n ≤ 100000) : n + 1 ≤ maxLen := by unfold maxLen; omega
theorem len1_ok8 {n : Nat} (h : n ≤ 100000) : (n + 1) * 8 ≤ 140737488355328 := by omega
theorem own_at {v v' : Value} {n : Nat} (h : v'.ownBlock = v.ownBlock ∨ v'.ownBlock = some n) : ∀ q, v'.ownBlock = some q → v.ownBlock = some q ∨ n ≤ q := by
  intro q hq
  rcases h with h | h
  · exact .inl (by rw [← h]; exact hq)
  · rw [h] at hq; injection hq with hq; subst hq; exact .inr (Nat.le_refl _)
def wo (P : List Int) (t : Int) : List Int := P.filter fun y => y != t
set_option maxRecDepth 100000 in
set_option maxHeartbeats 2000000 in
theorem has_any (base : Nat) (v : Value) (P : List Int) (t : Int) (w : World) (h : Row base 3 1 intCell w v P) (hl : P.length ≤ 100000) :
    Calls Try.prog 33 #[v, .int .i64 t] w fun e w' => e = .returned (.bool (decide (t ∈ P))) ∧ w' = w := by
  obtain ⟨a, c, rfl⟩ := h.shape
  replace h := Lib.hid h
  go_enter Try.func33, Try.ntmps33
  go_wp2_with fail
  go_loopg [5] P.length (fun gk iv wr => ∃ i : Nat, gk = P.length - i ∧ i ≤ P.length ∧ iv = .int .i64 i ∧ wr = w ∧ ∀ j, j < i → P[j]? ≠ some t)
  case atStart => exact ⟨0, rfl, Nat.zero_le _, rfl, rfl, fun j hj => by omega⟩
  case round =>
    obtain ⟨i, rfl, hi, rfl, rfl, hno⟩ := hrel
    replace hno := Lib.hid hno
    by_cases hlt : i < P.length
    · obtain ⟨y, hy⟩ : ∃ y, P[i]? = some y := ⟨_, List.getElem?_eq_getElem hlt⟩
      obtain ⟨b', cap', he, _, _, _, _, _, _, hcell⟩ := h.out.at hy
      have h0 := hcell 0 _ rfl
      obtain ⟨rfl, rfl⟩ : a = some ⟨b', 0, none⟩ ∧ c = cap' := by injection he with h1 h2 h3; exact ⟨h1, h3⟩
      rw [Nat.mul_one, Nat.add_zero] at h0
      replace hy := Lib.hid hy
      clear hcell he
      by_cases hyt : y = t
      · subst hyt
        go_wp2_with fail
        go_ret
        exact ⟨by rw [decide_eq_true (List.mem_of_getElem? hy.out)]; rfl, rfl⟩
      · replace hyt : (y == t) = false := beq_eq_false_iff_ne.2 hyt
        go_wp2_with fail
        go_roundg (P.length - (i + 1))
        case measure => omega
        case rel =>
          exact ⟨i + 1, rfl, by omega, by go_num, rfl, fun j hj hjt => by
            by_cases hji : j = i
            · subst hji; rw [hy.out] at hjt; injection hjt with hjt; subst hjt; simp at hyt
            · exact hno.out j (by omega) hjt⟩
    · obtain rfl : i = P.length := by omega
      have hnm : t ∉ P := fun hm => by
        obtain ⟨j, hj⟩ := List.mem_iff_getElem?.1 hm
        exact hno.out j (List.getElem?_eq_some_iff.1 hj).1 hj
      replace hnm := Lib.hid hnm
      go_wp2_with fail
      go_ret
      exact ⟨by rw [decide_eq_false hnm.out]; rfl, rfl⟩
set_option maxRecDepth 100000 in
set_option maxHeartbeats 2000000 in
theorem without_any (base : Nat) (v : Value) (P : List Int) (t : Int) (w : World) (h : Row base 3 1 intCell w v P) (hl : P.length ≤ 100000) :
    Calls Try.prog 34 #[v, .int .i64 t] w fun e w' => ∃ v', e = .returned v' ∧ Row w.heap.size 3 1 intCell w' v' (wo P t) ∧ Below w.heap.size w w' := by
  obtain ⟨a, c, rfl⟩ := h.shape
  replace h := Lib.hid h
  go_enter Try.func34, Try.ntmps34
  go_wp2_with fail
  go_loopg [5, 6] P.length (fun gk mv iv wr => ∃ i : Nat, gk = P.length - i ∧ i ≤ P.length ∧ iv = .int .i64 i ∧ Row w.heap.size 3 1 intCell wr mv (wo (P.take i) t) ∧ Below w.heap.size w wr)
  case atStart => exact ⟨0, rfl, Nat.zero_le _, rfl, Row.nil (f := intCell) (fun _ => rfl) intCell_one _ _ _, Below.refl _ _⟩
  case round =>
    obtain ⟨i, rfl, hi, rfl, hR, hB⟩ := hrel
    by_cases hlt : i < P.length
    · obtain ⟨y, hy⟩ : ∃ y, P[i]? = some y := ⟨_, List.getElem?_eq_getElem hlt⟩
      obtain ⟨b', cap', he, _, _, _, _, _, _, hcell⟩ := h.out.at hy
      have h0 := hcell 0 _ rfl
      obtain ⟨rfl, rfl⟩ : a = some ⟨b', 0, none⟩ ∧ c = cap' := by injection he with h1 h2 h3; exact ⟨h1, h3⟩
      rw [Nat.mul_one, Nat.add_zero] at h0
      replace h0 := keep hB h0
      have hts : P.take (i + 1) = P.take i ++ [y] := by
        rw [List.take_add_one, hy]; rfl
      clear hcell he
      by_cases hyt : y = t
      · have hw : wo (P.take (i + 1)) t = wo (P.take i) t := by rw [hts]; simp [wo, hyt]
        subst hyt
        replace hy := Lib.hid hy
        replace hts := Lib.hid hts
        replace hw := Lib.hid hw
        replace hR := Lib.hid hR
        replace hB := Lib.hid hB
        go_wp2_with fail
        go_roundg (P.length - (i + 1))
        case measure => omega
        case rel => exact ⟨i + 1, rfl, by omega, by go_num, by rw [hw.out]; exact hR.out, hB.out⟩
      · have hw : wo (P.take (i + 1)) t = wo (P.take i) t ++ [y] := by rw [hts]; simp [wo, hyt]
        replace hyt : (y == t) = false := beq_eq_false_iff_ne.2 hyt
        have hll : (wo (P.take i) t).length ≤ 100000 := by
          have h1 : (wo (P.take i) t).length ≤ (P.take i).length := List.length_filter_le _ _
          rw [List.length_take] at h1
          omega
        obtain ⟨am, cm, e1⟩ := hR.shape
        subst e1
        generalize hM : wo (P.take i) t = M at *
        replace hy := Lib.hid hy
        replace hts := Lib.hid hts
        replace hw := Lib.hid hw
        replace hM := Lib.hid hM
        have hbs := hB.size
        have hb8 : Below wr.heap.size wr (wr.alloc (.cells #[.int .i64 y] 3)) := (Below.refl _ _).alloc (Nat.le_refl _) _
        have hR8 := Lib.hid (hR.below hb8)
        have hB8 := Lib.hid (hB.trans (hb8.mono hbs))
        have hbs8 := Lib.hid (Nat.le_trans hbs hb8.size)
        have hS8 : SrcOf (wr.alloc (.cells #[.int .i64 y] 3)) (.slice (some ⟨wr.heap.size, 0, none⟩) 1 1) 1 1 ([y].flatMap intCell) := SrcOf.one wr 3 (intCell y) (intCell_one y)
        replace hS8 := Lib.hid hS8
        obtain ⟨ii, hi8, hz8, hs8, hy8⟩ := int_infoR
        replace hi8 := Lib.hid hi8
        replace hz8 := Lib.hid hz8
        replace hs8 := Lib.hid hs8
        replace hy8 := Lib.hid hy8
        replace hb8 := Lib.hid hb8
        replace hB := Lib.hid hB
        replace hR := Lib.hid hR
        replace hbs := Lib.hid hbs
        go_wp2_with (at_builtin; refine wpList_append_row (f := intCell) (M := [y]) _ rfl _ _ 27 rfl w.heap.size 3 ii (.int .i64 0) 1 8 Try.underlying27 hi8.out hz8.out hs8.out hy8.out rfl (by decide) (.slice am M.length cm) M rfl hR8.out (.slice (some ⟨wr.heap.size, 0, none⟩) 1 1) rfl hS8.out (len1_ok hll) (len1_ok8 hll) hbs8.out ?_; intro a9 c9 w9 hrow hu hat; replace hrow := Lib.hid hrow; have hB9 := Lib.hid (hB8.out.trans (hu.below hbs8.out (fun k hk => (hR8.out.lt k (mem_own hk)).1))); clear hu hat)
        go_roundg (P.length - (i + 1))
        case measure => omega
        case rel => exact ⟨i + 1, rfl, by omega, by go_num, by rw [hw.out]; exact hrow.out, hB9.out⟩
    · obtain rfl : i = P.length := by omega
      rw [List.take_length] at hR
      replace hR := Lib.hid hR
      replace hB := Lib.hid hB
      go_wp2_with fail
      go_ret
      exact ⟨_, rfl, hR.out, hB.out⟩
end Go.Proofs.Ytidiefcgepllmaa
