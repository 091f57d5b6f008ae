/- The document's pool of layer 2: in memory; Free, Alive, Handles. -/
import Derived.Test.YtoknkedmpdcinaaSortHands
import Derived.Test.YtoknkedmpdcinaaRowSet
import Derived.StillTailTactics
import Derived.Deep.LoopGhost
import Derived.Deep.DeepCutAuto
import Derived.Deep.RegionWith
import Derived.Deep.RegionLaw
import Derived.Deep.QuietTactic
import Derived.BigQuiet
namespace Go.Proofs.Ytoknkedmpdcinaa
open Go.RowKit
/-- A slot: its generation, whose thing stands there (0: nobody's), and what. -/
structure Sl where
  gen : Int
  who : Nat
  x : ByteArray
def slCell (s : Sl) : List Value := [.int .u64 s.gen, .int .i64 s.who, .string s.x]
theorem slCell_len (s : Sl) : (slCell s).length = 3 := rfl
theorem slCell_one (s : Sl) : ∀ y ∈ slCell s, y.oneCell' = true := by
  intro y hy
  simp [slCell] at hy
  rcases hy with rfl | rfl | rfl <;> rfl
def Rf (w : World) (b : Option Nat) (SL : List Sl) : Prop := match b with
  | none => SL = []
  | some b => ∃ a c, w.heap[b]? = some (.cells #[.slice a SL.length c] 77) ∧ Row 0 110 3 slCell w (.slice a SL.length c) SL
def rptr (b : Option Nat) : Value := .pointer (b.map fun b => ⟨b, 0, none⟩)
def freeOf (SL : List Sl) : List Bool := SL.map fun s => s.who == 0
def handsR (k : Nat) (SL : List Sl) : List (Int × Int) := (SL.zipIdx.filter fun p => p.1.who == k).map fun p => ((p.2 : Int), p.1.gen)
theorem take_snoc {α : Type} {L : List α} {i : Nat} {x : α} (h : L[i]? = some x) : L.take (i + 1) = L.take i ++ [x] := by
  rw [List.take_add_one, h]; rfl
theorem handsR_snoc (k : Nat) (L : List Sl) (s : Sl) : handsR k (L ++ [s]) = handsR k L ++ (if s.who == k then [((L.length : Int), s.gen)] else []) := by
  unfold handsR
  rw [List.zipIdx_append, List.filter_append, List.map_append]
  congr 1
  simp only [Nat.zero_add, List.zipIdx_singleton]
  by_cases h : (s.who == k) = true
  · rw [List.filter_cons_of_pos (by exact h), if_pos h]; rfl
  · rw [List.filter_cons_of_neg (by exact h), if_neg h]; rfl
theorem freeOf_snoc (L : List Sl) (s : Sl) : freeOf (L ++ [s]) = freeOf L ++ [s.who == 0] := by simp [freeOf]
theorem freeOf_len (L : List Sl) : (freeOf L).length = L.length := by simp [freeOf]
def aliveB (SL : List Sl) (k : Nat) (hs hg : Int) : Bool := decide (0 ≤ hs) && (match SL[hs.toNat]? with
  | some s => s.who == k && s.gen == hg
  | none => false)
/-- A slot's cells. -/
theorem Rf.at {w : World} {b : Nat} {SL : List Sl} {i : Nat} {s : Sl} (h : Rf w (some b) SL) (hs : SL[i]? = some s) : ∃ q c, w.cell? ⟨b, 0, none⟩ = some (.slice (some ⟨q, 0, none⟩) SL.length c) ∧ b < w.heap.size ∧ q < w.heap.size ∧ SL.length ≤ c ∧
    w.cell? ⟨q, i * 3, none⟩ = some (.int .u64 s.gen) ∧ w.cell? ⟨q, i * 3 + 1, none⟩ = some (.int .i64 s.who) ∧ w.cell? ⟨q, i * 3 + 2, none⟩ = some (.string s.x) := by
  obtain ⟨a, c, hb, hr⟩ := h
  obtain ⟨q, c', he, _, _, hq, hc, _, _, hcell⟩ := hr.at hs
  injection he with h1 _ h2
  subst h1 h2
  have g0 := hcell 0 _ rfl
  rw [Nat.add_zero] at g0
  exact ⟨q, c, by rw [cell_of_heap hb]; rfl, heap_lt hb, hq, hc, g0, hcell 1 _ rfl, hcell 2 _ rfl⟩
theorem Rf.len {w : World} {b : Nat} {SL : List Sl} (h : Rf w (some b) SL) : ∃ a c, w.cell? ⟨b, 0, none⟩ = some (.slice a SL.length c) ∧ b < w.heap.size := by
  obtain ⟨a, c, hb, hr⟩ := h
  exact ⟨a, c, by rw [cell_of_heap hb]; rfl, heap_lt hb⟩
theorem Rf.below {w w' : World} {b : Option Nat} {SL : List Sl} (h : Rf w b SL) (hb : Below w.heap.size w w') : Rf w' b SL := by
  match b, h with
  | none, h => exact h
  | some b, ⟨a, c, h1, h2⟩ => exact ⟨a, c, Below.heap' hb h1, h2.below hb⟩
set_option maxRecDepth 100000 in
set_option maxHeartbeats 1000000 in
theorem r2Free_any (b : Option Nat) (SL : List Sl) (w : World) (h : Rf w b SL) (hl : SL.length ≤ 5000) : Calls Try.prog 29 #[rptr b] w fun e w' => e = .returned (.int .i64 ((freeOf SL).count true : Nat)) ∧ w = w' := by
  cases b with
  | none =>
    have : SL = [] := h
    subst this
    unfold rptr
    go_enter Try.func29, Try.ntmps29
    go_wp2_with fail
    go_loopg [3, 4] 0 (fun gk nv iv wr => nv = .int .i64 0 ∧ iv = .int .i64 0 ∧ wr = w)
    case atStart => exact ⟨rfl, rfl, rfl⟩
    case round =>
      obtain ⟨rfl, rfl, rfl⟩ := hrel
      go_wp2_with fail
      go_ret
      exact ⟨rfl, rfl⟩
  | some b =>
    obtain ⟨a, c, d0, hbl⟩ := h.len
    replace h := Lib.hid h
    show Calls _ _ #[.pointer (some ⟨b, 0, none⟩)] _ _
    go_enter Try.func29, Try.ntmps29
    go_wp2_with fail
    go_loopg [3, 4] SL.length (fun gk nv iv wr => ∃ i : Nat, gk = SL.length - i ∧ i ≤ SL.length ∧ iv = .int .i64 i ∧ nv = .int .i64 ((freeOf (SL.take i)).count true : Nat) ∧ wr = w)
    case atStart => exact ⟨0, rfl, Nat.zero_le _, rfl, rfl, rfl⟩
    case round =>
      obtain ⟨i, rfl, hi, rfl, rfl, rfl⟩ := hrel
      by_cases hlt : i < SL.length
      · obtain ⟨s, hs⟩ : ∃ s, SL[i]? = some s := ⟨_, List.getElem?_eq_getElem hlt⟩
        obtain ⟨q, c', d1, _, hq, _, g0, g1, g2⟩ := h.out.at hs
        have hts := take_snoc hs
        have hcl : (freeOf (SL.take i)).count true ≤ 5000 := Nat.le_trans List.count_le_length (by rw [freeOf_len, List.length_take]; omega)
        rw [d0] at d1
        injection d1 with d1
        injection d1 with d1 _ d2
        subst d1 d2
        by_cases hw0 : s.who = 0
        · have hnx : (freeOf (SL.take (i + 1))).count true = (freeOf (SL.take i)).count true + 1 := by rw [hts, freeOf_snoc, List.count_append, hw0]; rfl
          generalize (freeOf (SL.take i)).count true = n at *
          rw [hw0] at g1
          replace hts := Lib.hid hts
          replace hs := Lib.hid hs
          replace hnx := Lib.hid hnx
          replace hw0 := Lib.hid hw0
          go_wp2_with fail
          go_roundg (SL.length - (i + 1))
          case measure => omega
          case rel => exact ⟨i + 1, rfl, by omega, by go_num, by rw [hnx.out]; go_num, rfl⟩
        · have hnx : (freeOf (SL.take (i + 1))).count true = (freeOf (SL.take i)).count true := by
            rw [hts, freeOf_snoc, List.count_append]
            have : (s.who == 0) = false := by simpa using hw0
            rw [this]; rfl
          have hw1 : ((s.who : Int) == 0) = false := by simp; omega
          generalize (freeOf (SL.take i)).count true = n at *
          replace hts := Lib.hid hts
          replace hs := Lib.hid hs
          replace hnx := Lib.hid hnx
          clear hw0
          go_wp2_with fail
          go_roundg (SL.length - (i + 1))
          case measure => omega
          case rel => exact ⟨i + 1, rfl, by omega, by go_num, by rw [hnx.out], rfl⟩
      · obtain rfl : i = SL.length := by omega
        rw [List.take_length]
        generalize hcn : (freeOf SL).count true = n at *
        replace hcn := Lib.hid hcn
        go_wp2_with fail
        go_ret
        exact ⟨by rw [hcn.out]; rfl, rfl⟩
set_option maxRecDepth 100000 in
set_option maxHeartbeats 2000000 in
theorem r2Alive_any (b : Option Nat) (SL : List Sl) (k : Nat) (hs hg : Int) (w : World) (h : Rf w b SL) : Calls Try.prog 42 #[rptr b, .int .i64 k, .agg #[.int .i64 hs, .int .u64 hg]] w fun e w' => e = .returned (.bool (aliveB SL k hs hg)) ∧ Below w.heap.size w w' := by
  cases b with
  | none =>
    have : SL = [] := h
    subst this
    have hf : aliveB [] k hs hg = false := by simp [aliveB]
    unfold rptr
    go_enter Try.func42, Try.ntmps42
    go_wp2_with fail
    go_quiet (fail)
    go_wp2_with fail
    go_ret
    exact ⟨by rw [hf]; rfl, (Below.refl _ _).alloc (Nat.le_refl _) _ |>.trans ⟨rfl, rfl, rfl, by simp, fun _ _ => rfl⟩⟩
  | some b =>
    obtain ⟨a, c, d0, hbl⟩ := h.len
    show Calls _ _ #[.pointer (some ⟨b, 0, none⟩), _, _] _ _
    by_cases h0 : 0 ≤ hs
    · obtain ⟨n, rfl⟩ := Int.eq_ofNat_of_zero_le h0
      by_cases h1 : n < SL.length
      · obtain ⟨s, hse⟩ : ∃ s, SL[n]? = some s := ⟨_, List.getElem?_eq_getElem h1⟩
        obtain ⟨q, c', d1, _, hq, _, g0, g1, g2⟩ := h.at hse
        rw [d0] at d1
        injection d1 with d1
        injection d1 with d1 _ d2
        subst d1 d2
        have hal : aliveB SL k n hg = (s.who == k && s.gen == hg) := by simp [aliveB, hse]
        have hwk : ((s.who : Int) == (k : Int)) = (s.who == k) := by rw [Bool.eq_iff_iff, beq_iff_eq, beq_iff_eq]; omega
        replace hal := Lib.hid hal
        replace hse := Lib.hid hse
        clear h
        cases hb1 : (s.who == k) with
        | false =>
          rw [hb1] at hwk
          replace hb1 := Lib.hid hb1
          go_enter Try.func42, Try.ntmps42
          go_wp2_with fail
          go_quiet (fail)
          go_wp2_with fail
          go_ret
          exact ⟨by rw [hal.out, hb1.out]; rfl, (Below.refl _ _).alloc (Nat.le_refl _) _ |>.trans ⟨rfl, rfl, rfl, by simp, fun _ _ => rfl⟩⟩
        | true =>
          rw [hb1] at hwk
          replace hb1 := Lib.hid hb1
          cases hb2 : (s.gen == hg) with
          | false =>
            go_enter Try.func42, Try.ntmps42
            go_wp2_with fail
            go_quiet (fail)
            go_wp2_with fail
            go_ret
            exact ⟨by rw [hal.out, hb1.out, hb2]; rfl, (Below.refl _ _).alloc (Nat.le_refl _) _ |>.trans ⟨rfl, rfl, rfl, by simp, fun _ _ => rfl⟩⟩
          | true =>
            go_enter Try.func42, Try.ntmps42
            go_wp2_with fail
            go_quiet (fail)
            go_wp2_with fail
            go_ret
            exact ⟨by rw [hal.out, hb1.out, hb2]; rfl, (Below.refl _ _).alloc (Nat.le_refl _) _ |>.trans ⟨rfl, rfl, rfl, by simp, fun _ _ => rfl⟩⟩
      · have hf : aliveB SL k n hg = false := by simp [aliveB, List.getElem?_eq_none (Nat.le_of_not_lt h1)]
        have h2 : decide ((n : Int) < (SL.length : Int)) = false := by simp; omega
        replace hf := Lib.hid hf
        clear h
        go_enter Try.func42, Try.ntmps42
        go_wp2_with fail
        go_quiet (fail)
        go_wp2_with fail
        go_ret
        exact ⟨by rw [hf.out]; rfl, (Below.refl _ _).alloc (Nat.le_refl _) _ |>.trans ⟨rfl, rfl, rfl, by simp, fun _ _ => rfl⟩⟩
    · have hf : aliveB SL k hs hg = false := by simp [aliveB, h0]
      have h2 : decide (0 ≤ hs) = false := by simpa using h0
      replace hf := Lib.hid hf
      clear h
      go_enter Try.func42, Try.ntmps42
      go_wp2_with fail
      go_quiet (fail)
      go_wp2_with fail
      go_ret
      exact ⟨by rw [hf.out]; rfl, (Below.refl _ _).alloc (Nat.le_refl _) _ |>.trans ⟨rfl, rfl, rfl, by simp, fun _ _ => rfl⟩⟩
end Go.Proofs.Ytoknkedmpdcinaa
