/- The document's Epoch: Unpin. -/
import Derived.Test.YtidiefcgepllmaaRef4S
import Derived.Deep.LoopGhost
namespace Go.Proofs.Ytidiefcgepllmaa
open Go.RowKit
theorem RefJ.pin {base wp : Nat} {P : List Int} {L : List (Int × List Int)} {O : List Nat} {w : World} (h : RefJ base wp P L O w) : ∃ pv, w.cell? ⟨wp, 0, none⟩ = some pv ∧ Row base 3 1 intCell w pv P ∧ (∀ w1, Below w.heap.size w w1 → w1.cell? ⟨wp, 0, none⟩ = some pv ∧ w1.frozen? ⟨wp, 0, none⟩ = false ∧ wp < w1.heap.size) := by
  obtain ⟨pv, lv, LL, hI, _⟩ := h
  refine ⟨pv, by rw [cell_of_heap hI.blk]; rfl, hI.pr, fun w1 hb => ?_⟩
  have := (Upd.of_below (S := []) hb).heap hI.blk (by simp)
  exact ⟨by rw [cell_of_heap this]; rfl, frozen_of_heap this 0, heap_lt this⟩
def midW (L : List (Int × List Int)) (t : Int) (i : Nat) : List (Int × List Int) := (L.take i).map (fun r => (r.1, wo r.2 t)) ++ L.drop i
theorem midW_get {L : List (Int × List Int)} {t : Int} {i : Nat} {p : Int × List Int} (h : L[i]? = some p) : (midW L t i)[i]? = some p := by
  have hi := (List.getElem?_eq_some_iff.1 h).1
  unfold midW
  rw [List.getElem?_append_right (by simp; omega)]
  simp [Nat.min_eq_left (Nat.le_of_lt hi), h]
theorem midW_set {L : List (Int × List Int)} {t : Int} {i : Nat} (hi : i < L.length) {p : Int × List Int} (h : L[i]? = some p) : (midW L t i).set i (p.1, wo p.2 t) = midW L t (i + 1) := by
  have h2 : L[i] = p := by rw [List.getElem?_eq_getElem hi] at h; injection h
  unfold midW
  rw [List.set_append_right _ _ (by simp; omega), List.drop_eq_getElem_cons hi, List.take_succ_eq_append_getElem hi, h2]
  simp [Nat.min_eq_left (Nat.le_of_lt hi)]
theorem midW_len {L : List (Int × List Int)} {t : Int} {i : Nat} (hi : i ≤ L.length) : (midW L t i).length = L.length := by
  simp [midW]; omega
theorem RefEnd.via {base wp : Nat} {P' : List Int} {L' : List (Int × List Int)} {O O' : List Nat} {w w1 w1' w2 : World} (hu : Upd O w w1) (hg : ∀ k, k ∈ O' → k ∈ O ∨ w.heap.size ≤ k) (hd : Below w1.heap.size w1 w1') (h2 : RefEnd base wp P' L' O' w1' w2) : RefEnd base wp P' L' O w w2 := by
  obtain ⟨O2, hJ2, hu2, hg2⟩ := h2
  refine ⟨O2, hJ2, hu.via (((Upd.of_below (S := []) hd).mono (by simp)).trans hu2) hg, fun k hk => ?_⟩
  rcases hg2 k hk with h3 | h3
  · exact hg k h3
  · exact .inr (Nat.le_trans hu.size (Nat.le_trans hd.size h3))
set_option maxRecDepth 100000 in
set_option maxHeartbeats 2000000 in
theorem rUnpin_any (base wp : Nat) (P : List Int) (L : List (Int × List Int)) (O : List Nat) (t : Int) (w : World) (h : RefJ base wp P L O w) (hP : P.length ≤ 100000) (hL : L.length ≤ 100000) (hW : ∀ r, r ∈ L → r.2.length ≤ 100000) :
    Calls Try.prog 20 #[.pointer (some ⟨wp, 0, none⟩), .int .i64 t] w fun z w' => z = .returned (.bool (decide (t ∈ P))) ∧ RefEnd base wp (wo P t) (L.map (fun r => (r.1, wo r.2 t))) O w w' := by
  obtain ⟨pv, d0, hrow, hK⟩ := h.pin
  have hc1 := Lib.hid (has_any base pv P t w hrow hP)
  have hc2 := Lib.hid (without_any base pv P t w hrow hP)
  have hlow := h.low.2
  replace hK := Lib.hid hK
  replace h := Lib.hid h
  replace hW := Lib.hid hW
  clear hrow
  go_enter Try.func20, Try.ntmps20
  go_wp2_with fail
  refine hc1.out.mono ?_
  clear hc1
  rintro z w0 ⟨rfl, rfl⟩
  go_wp2_with fail
  refine hc2.out.mono ?_
  clear hc2
  rintro z w1 ⟨v', rfl, hr, hb⟩
  obtain ⟨a', c', ev⟩ := hr.shape
  subst ev
  obtain ⟨k1, k2, k3⟩ := hK.out w1 hb
  have hE1 := Lib.hid (h.out.setPin hb hr)
  clear hr hb hK
  go_wp2_with fail
  go_loopg [6] L.length (fun gk iv wr => ∃ i : Nat, gk = L.length - i ∧ i ≤ L.length ∧ iv = .int .i64 i ∧ RefEnd base wp (wo P t) (midW L t i) O w0 wr)
  case atStart => exact ⟨0, rfl, Nat.zero_le _, rfl, hE1.out⟩
  case round =>
    obtain ⟨i, rfl, hi, rfl, hE⟩ := hrel
    obtain ⟨O', hJ, hu, hg⟩ := hE
    have hml := midW_len (t := t) hi
    clear hE1 k1 k2 k3 d0
    by_cases hlt : i < L.length
    · obtain ⟨⟨n, W⟩, hp⟩ : ∃ p, L[i]? = some p := ⟨_, List.getElem?_eq_getElem hlt⟩
      have hdr : Below wr.heap.size wr wr.drew := (Below.refl _ _).drew
      obtain ⟨b, c, u, d1, hbl, g0, g1, hrow, hK2, hset⟩ := (hJ.stab (Upd.of_below (S := []) hdr) (by simp)).setWait (midW_get (t := t) hp)
      rw [hml] at d1
      have d1' : wr.cell? ⟨wp, 1, none⟩ = some (.slice (some ⟨b, 0, none⟩) L.length c) := d1
      have g1' : wr.cell? ⟨b, i * 2 + 1, none⟩ = some u := g1
      have hbl' : b < wr.heap.size := hbl
      have hwl' : wp < wr.heap.size := hJ.low.2
      have hcw := Lib.hid (without_any base u W t wr.drew hrow (hW.out _ (List.mem_of_getElem? hp)))
      have hst := Lib.hid (midW_set (t := t) hlt hp)
      replace hp := Lib.hid hp
      replace hml := Lib.hid hml
      replace hK2 := Lib.hid hK2
      replace hset := Lib.hid hset
      replace hu := Lib.hid hu
      replace hg := Lib.hid hg
      replace hdr := Lib.hid hdr
      clear d1 g0 g1 hbl hrow hJ
      go_wp2_with fail
      go_region_law ((go_simp; go_at_call 34; refine hcw.out.mono ?_; rintro z w6 ⟨v6, rfl, hr6, hb6⟩; obtain ⟨a6, c6, ev6⟩ := hr6.shape; subst ev6; obtain ⟨k1, k2, k3, k4, k5⟩ := hK2.out w6 hb6; rw [hml.out] at k1; have hE6 := Lib.hid (hset.out w6 _ _ hb6 hr6); clear hr6 hb6))
      all_goals
        go_wp2_with fail
        go_roundg (L.length - (i + 1))
        case measure => omega
        case rel =>
          refine ⟨i + 1, by omega, by omega, by go_num, RefEnd.via hu.out hg.out hdr.out ?_⟩
          have := hE6.out
          rw [hst.out] at this
          exact this
    · obtain rfl : i = L.length := by omega
      have hlow2 := hJ.low.2
      obtain ⟨pv2, lv2, LL2, hI2, hLL2, _⟩ := id hJ
      have hl2 : LL2.length = L.length := by rw [← hml, ← hLL2, List.length_map]
      obtain ⟨a2, c2, e2⟩ := hI2.lr.shape
      subst e2
      rw [hl2] at hI2
      have d1 : wr.cell? ⟨wp, 1, none⟩ = some (.slice a2 L.length c2) := by rw [cell_of_heap hI2.blk]; rfl
      have hend : RefEnd base wp (wo P t) (L.map (fun r => (r.1, wo r.2 t))) O w0 wr := ⟨O', by have := hJ; rw [show midW L t L.length = L.map (fun r => (r.1, wo r.2 t)) by simp [midW]] at this; exact this, hu, hg⟩
      replace hend := Lib.hid hend
      replace hml := Lib.hid hml
      replace hl2 := Lib.hid hl2
      replace hLL2 := Lib.hid hLL2
      clear hJ hu hg hI2
      go_wp2_with fail
      go_ret
      exact ⟨rfl, hend.out⟩
end Go.Proofs.Ytidiefcgepllmaa
