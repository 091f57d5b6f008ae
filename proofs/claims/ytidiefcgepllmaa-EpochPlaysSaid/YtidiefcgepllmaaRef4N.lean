/- The document's Epoch: Next. -/
import Derived.Test.YtidiefcgepllmaaRef4Q
namespace Go.Proofs.Ytidiefcgepllmaa
open Go.RowKit
/-- The list at hand: where an entry's cells stand. -/
theorem RefJ.entry {base wp : Nat} {P : List Int} {L : List (Int × List Int)} {O : List Nat} {w : World} (h : RefJ base wp P L O w) : ∃ a c, w.cell? ⟨wp, 1, none⟩ = some (.slice a L.length c) ∧ wp < w.heap.size ∧
    ∀ i n W, L[i]? = some (n, W) → ∃ b a' c', a = some ⟨b, 0, none⟩ ∧ b < w.heap.size ∧ w.cell? ⟨b, i * 2, none⟩ = some (.int .i64 n) ∧ w.cell? ⟨b, i * 2 + 1, none⟩ = some (.slice a' W.length c') := by
  obtain ⟨pv, lv, LL, hI, hLL, hwO, hpO, hlO, hrO, hO⟩ := h
  have hll : LL.length = L.length := by rw [← hLL, List.length_map]
  obtain ⟨a, c, he⟩ := hI.lr.shape
  subst he
  refine ⟨a, c, by rw [cell_of_heap hI.blk, ← hll]; rfl, heap_lt hI.blk, fun i n W hi => ?_⟩
  obtain ⟨r, hr, hrn, hrW⟩ : ∃ r, LL[i]? = some r ∧ r.n = n ∧ r.W = W := by
    rw [← hLL, List.getElem?_map] at hi
    cases hq : LL[i]? with
    | none => rw [hq] at hi; cases hi
    | some r => rw [hq] at hi; injection hi with hi; injection hi with h1 h2; exact ⟨r, rfl, h1, h2⟩
  subst hrn hrW
  obtain ⟨b, c2, hlv, _, _, hbl, _, _, _, hcell⟩ := hI.lr.at hr
  have g0 := hcell 0 _ rfl
  have g1 := hcell 1 _ rfl
  injection hlv with h1 _ _
  rw [Nat.add_zero] at g0
  exact ⟨b, r.a, r.c, h1, hbl, g0, g1⟩
set_option maxRecDepth 100000 in
set_option maxHeartbeats 2000000 in
/-- Nobody is ripe. -/
theorem rNext_none (base wp : Nat) (P : List Int) (L : List (Int × List Int)) (O : List Nat) (from' many : Nat) (w : World) (h : RefJ base wp P L O w) (hL : L.length ≤ 100000) (hf : from' ≤ 100000) (hm : many ≤ L.length)
    (hno : ∀ i n W, from' ≤ i → i < many → L[i]? = some (n, W) → W ≠ []) :
    Calls Try.prog 36 #[.pointer (some ⟨wp, 0, none⟩), .int .i64 from', .int .i64 many] w fun z w' => z = .returned (.tuple #[.int .i64 (-1), .int .i64 many]) ∧ w' = w := by
  obtain ⟨a, c, d1, hwl, hent⟩ := h.entry
  replace hent := Lib.hid hent
  replace hno := Lib.hid hno
  clear h
  go_enter Try.func36, Try.ntmps36
  go_wp2_with fail
  go_loopg [8] (many + from' - from') (fun gk iv wr => ∃ i : Nat, gk = many + from' - i ∧ from' ≤ i ∧ i ≤ many + from' ∧ iv = .int .i64 i ∧ wr = w)
  case atStart => exact ⟨from', rfl, Nat.le_refl _, by omega, rfl, rfl⟩
  case round =>
    obtain ⟨i, rfl, hfi, him, rfl, rfl⟩ := hrel
    by_cases hlt : i < many
    · obtain ⟨⟨n, W⟩, hp⟩ : ∃ p, L[i]? = some p := ⟨_, List.getElem?_eq_getElem (by omega)⟩
      obtain ⟨b, a', c', rfl, hbl, g0, g1⟩ := hent.out i n W hp
      have hW := hno.out i n W hfi hlt hp
      have hWl : ¬ W.length = 0 := fun hh => hW (List.eq_nil_of_length_eq_zero hh)
      have hil : i < L.length := by omega
      replace hp := Lib.hid hp
      replace hW := Lib.hid hW
      go_wp2_with fail
      go_roundg (many + from' - (i + 1))
      case measure => omega
      case rel => exact ⟨i + 1, rfl, by omega, by omega, by go_num, rfl⟩
    · go_wp2_with fail
      go_ret2
      exact ⟨rfl, rfl⟩
end Go.Proofs.Ytidiefcgepllmaa
