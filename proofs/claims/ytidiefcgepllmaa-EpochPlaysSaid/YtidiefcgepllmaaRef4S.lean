/- The document's Epoch: what is written into it. -/
import Derived.Test.YtidiefcgepllmaaRef4R
namespace Go.Proofs.Ytidiefcgepllmaa
open Go.RowKit
variable {base wp : Nat} {P P' : List Int} {L : List (Int × List Int)} {O : List Nat} {w w1 : World}
theorem RefJ.low (h : RefJ base wp P L O w) : base ≤ w.heap.size ∧ wp < w.heap.size := by
  obtain ⟨pv, lv, LL, _, _, hwO, _, _, _, hO⟩ := h
  have := hO wp hwO
  omega
/-- 'e.Pinned = ..', a new list. -/
theorem RefJ.setPin (h : RefJ base wp P L O w) (hb : Below w.heap.size w w1) {v' : Value} (hr : Row w.heap.size 3 1 intCell w1 v' P') : RefEnd base wp P' L O w (w1.setCell ⟨wp, 0, none⟩ v') := by
  have hlow := h.low
  obtain ⟨pv, lv, LL, hI, hLL, hwO, hpO, hlO, hrO, hO⟩ := h
  have hI1 := hI.upd (Upd.of_below (S := []) hb) (by simp) (by simp) (by simp) (by simp)
  have hs : Upd [wp] w1 (w1.setCell ⟨wp, 0, none⟩ v') := (Upd.refl _ _).setCell (p := ⟨wp, 0, none⟩) (by simp) _
  obtain ⟨n1, n2, n3, n4⟩ := hI1.ne
  have hsz := hb.size
  have hz := hs.size
  refine ⟨O ++ v'.ownBlock.toList, ⟨v', lv, LL, ⟨by rw [heap_set_same hI1.blk]; rfl, (hr.rebase (fun q hq => by have := hr.lt q hq; omega)).upd hs (fun q hq hh => by have := hr.lt q hq; simp at hh; omega), hI1.lr.upd hs (fun q hq hh => by simp at hh; exact n2 q hq hh), fun r hr' => (hI1.ws r hr').upd hs (fun q hq hh => by simp at hh; exact (n3 r hr' q hq).1 hh), hI1.wb⟩, hLL, List.mem_append_left _ hwO, fun q hq => List.mem_append_right _ (by rw [hq]; simp), fun q hq => List.mem_append_left _ (hlO q hq), fun r hr' q hq => List.mem_append_left _ (hrO r hr' q hq), fun q hq => ?_⟩, ((Upd.of_below (S := []) hb).mono (by simp)).trans (hs.mono (fun q hq => by simp at hq; rw [hq]; exact hwO)), fun q hq => ?_⟩
  · rcases List.mem_append.1 hq with hq | hq
    · have := hO q hq; omega
    · have := hr.lt q (mem_own hq); omega
  · rcases List.mem_append.1 hq with hq | hq
    · exact .inl hq
    · exact .inr (hr.lt q (mem_own hq)).1
/-- 'e.L[i].Wait = ..', a new list. -/
theorem RefJ.setWait (h : RefJ base wp P L O w) {i : Nat} {n : Int} {W : List Int} (hi : L[i]? = some (n, W)) :
    ∃ (b c : Nat) (u : Value), w.cell? ⟨wp, 1, none⟩ = some (.slice (some ⟨b, 0, none⟩) L.length c) ∧ b < w.heap.size ∧ w.cell? ⟨b, i * 2, none⟩ = some (.int .i64 n) ∧ w.cell? ⟨b, i * 2 + 1, none⟩ = some u ∧ Row base 3 1 intCell w u W ∧
      (∀ w1, Below w.heap.size w w1 → w1.cell? ⟨wp, 1, none⟩ = some (.slice (some ⟨b, 0, none⟩) L.length c) ∧ w1.cell? ⟨b, i * 2 + 1, none⟩ = some u ∧ w1.frozen? ⟨b, i * 2 + 1, none⟩ = false ∧ b < w1.heap.size ∧ wp < w1.heap.size) ∧
      ∀ w1 v' W', Below w.heap.size w w1 → Row w.heap.size 3 1 intCell w1 v' W' → RefEnd base wp P (L.set i (n, W')) O w (w1.setCell ⟨b, i * 2 + 1, none⟩ v') := by
  have hlow := h.low
  obtain ⟨pv, lv, LL, hI, hLL, hwO, hpO, hlO, hrO, hO⟩ := h
  obtain ⟨r, hr, hrn, hrW⟩ : ∃ r, LL[i]? = some r ∧ r.n = n ∧ r.W = W := by
    rw [← hLL, List.getElem?_map] at hi
    cases hq : LL[i]? with
    | none => rw [hq] at hi; cases hi
    | some r => rw [hq] at hi; injection hi with hi; injection hi with h1 h2; exact ⟨r, rfl, h1, h2⟩
  subst hrn hrW
  have hll : LL.length = L.length := by rw [← hLL, List.length_map]
  have hrm := List.mem_of_getElem? hr
  obtain ⟨b, c, hlv, hlb, _, hbl, _, _, hil, hcell⟩ := hI.lr.at hr
  have g0 := hcell 0 _ rfl
  have g1 := hcell 1 _ rfl
  rw [hll] at hlv
  rw [Nat.add_zero] at g0
  have d1 : w.cell? ⟨wp, 1, none⟩ = some (.slice (some ⟨b, 0, none⟩) L.length c) := by rw [cell_of_heap hI.blk, ← hlv]; rfl
  refine ⟨b, c, r.u, d1, hbl, g0, g1, hI.ws r hrm, fun w1 hb => ?_, fun w1 v' W' hb hv => ?_⟩
  · obtain ⟨cur, hcur⟩ := hI.lr.tag hlb
    have := (Upd.of_below (S := []) hb).heap hcur (by simp)
    exact ⟨by rw [hb.cell hlow.2]; exact d1, by rw [hb.cell hbl]; exact g1, frozen_of_heap this _, heap_lt this, Nat.lt_of_lt_of_le hlow.2 hb.size⟩
  · obtain ⟨a', c', he⟩ := hv.shape
    subst he
    have hI1 := hI.upd (Upd.of_below (S := []) hb) (by simp) (by simp) (by simp) (by simp)
    obtain ⟨b2, c2, hlv2, hlb2, _, _, hrow⟩ := hI1.lr.setCell hr (j := 1) (y := ⟨r.n, a', c', W'⟩) (u := .slice a' W'.length c') (by decide) rfl
    have hbb : b2 = b := by rw [hlb] at hlb2; injection hlb2 with hlb2; exact hlb2.symm
    subst hbb
    have hs : Upd [b2] w1 (w1.setCell ⟨b2, i * 2 + 1, none⟩ (.slice a' W'.length c')) := (Upd.refl _ _).setCell (p := ⟨b2, i * 2 + 1, none⟩) (by simp) _
    obtain ⟨n1, n2, n3, n4⟩ := hI1.ne
    have hsz := hb.size
    have hz := hs.size
    refine ⟨O ++ (Value.slice a' W'.length c').ownBlock.toList, ⟨pv, lv, LL.set i ⟨r.n, a', c', W'⟩, ⟨hs.heap hI1.blk (fun hh => by simp at hh; exact n2 b2 hlb hh.symm), hI1.pr.upd hs (fun q hq hh => by simp at hh; subst hh; exact n4 q hq hlb), hrow, fun r2 hr2 => ?_, hI1.wb⟩, ?_, List.mem_append_left _ hwO, fun q hq => List.mem_append_left _ (hpO q hq), fun q hq => List.mem_append_left _ (hlO q hq), fun r2 hr2 q hq => ?_, fun q hq => ?_⟩, ((Upd.of_below (S := []) hb).mono (by simp)).trans (hs.mono (fun q hq => by simp at hq; rw [hq]; exact hlO _ hlb)), fun q hq => ?_⟩
    · rcases List.mem_or_eq_of_mem_set hr2 with hr2 | rfl
      · exact (hI1.ws r2 hr2).upd hs (fun q hq hh => by simp at hh; subst hh; exact (n3 r2 hr2 q hq).2 hlb)
      · exact (hv.rebase (fun q hq => by have := hv.lt q hq; omega)).upd hs (fun q hq hh => by have := hv.lt q hq; simp at hh; omega)
    · rw [List.map_set, hLL]
    · rcases List.mem_or_eq_of_mem_set hr2 with hr2 | rfl
      · exact List.mem_append_left _ (hrO r2 hr2 q hq)
      · exact List.mem_append_right _ (by rw [show (Value.slice a' W'.length c').ownBlock = some q from hq]; simp)
    · rcases List.mem_append.1 hq with hq | hq
      · have := hO q hq; omega
      · have := hv.lt q (mem_own hq); omega
    · rcases List.mem_append.1 hq with hq | hq
      · exact .inl hq
      · exact .inr (hv.lt q (mem_own hq)).1
theorem RefEnd.trans {O : List Nat} {w2 : World} {P'' : List Int} {L' L'' : List (Int × List Int)} (h : RefEnd base wp P' L' O w w1) (h2 : ∀ O', RefJ base wp P' L' O' w1 → RefEnd base wp P'' L'' O' w1 w2) : RefEnd base wp P'' L'' O w w2 := by
  obtain ⟨O', hJ, hu, hg⟩ := h
  obtain ⟨O2, hJ2, hu2, hg2⟩ := h2 O' hJ
  refine ⟨O2, hJ2, hu.via hu2 hg, fun k hk => ?_⟩
  rcases hg2 k hk with h3 | h3
  · exact hg k h3
  · exact .inr (Nat.le_trans hu.size h3)
end Go.Proofs.Ytidiefcgepllmaa
