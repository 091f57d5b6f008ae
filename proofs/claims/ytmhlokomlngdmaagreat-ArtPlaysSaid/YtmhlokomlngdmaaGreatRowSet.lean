/- A store into an element of a slice of the call's own. No program in sight. -/
import Derived.Test.YtmhlokomlngdmaaGreatRow
import Derived.Laws.MakeOwn
namespace Go.Proofs.YtmhlokomlngdmaaGreat
open Go.RowKit
variable {α : Type} {base k : Nat} {e : TypeId} {f : α → List Value} {w w' : World} {v : Value} {L : List α}
theorem flat_set (hf : ∀ x, (f x).length = k) {j : Nat} (hj : j < k) {x y : α} {u : Value} (hy : f y = (f x).set j u) : ∀ (L : List α) (i : Nat), L[i]? = some x → (L.set i y).flatMap f = (L.flatMap f).set (i * k + j) u
  | [], i, h => by simp at h
  | a :: l, 0, h => by
    simp at h
    subst h
    rw [List.set_cons_zero, List.flatMap_cons, List.flatMap_cons, Nat.zero_mul, Nat.zero_add, List.set_append_left _ _ (by rw [hf]; exact hj), hy]
  | a :: l, i + 1, h => by
    rw [List.set_cons_succ, List.flatMap_cons, List.flatMap_cons, flat_set hf hj hy l i (by simpa using h), List.set_append_right _ _ (by rw [hf, Nat.add_mul]; omega), hf, show (i + 1) * k + j - k = i * k + j by rw [Nat.add_mul]; omega]
theorem Row.setCell (h : Row base e k f w v L) {i j : Nat} {x y : α} {u : Value} (hi : L[i]? = some x) (hj : j < k) (hy : f y = (f x).set j u) :
    ∃ b c, v = .slice (some ⟨b, 0, none⟩) L.length c ∧ v.ownBlock = some b ∧ w.cell? ⟨b, i * k + j, none⟩ = (f x)[j]? ∧ w.frozen? ⟨b, i * k + j, none⟩ = false ∧ Row base e k f (w.setCell ⟨b, i * k + j, none⟩ u) v (L.set i y) := by
  obtain ⟨b', c', hv', hb', _, _, _, _, hil, hat⟩ := h.at hi
  have hfx : j < (f x).length := by rw [h.1]; exact hj
  have hcell := hat j _ (List.getElem?_eq_getElem hfx)
  obtain ⟨hf, h1, h2, h3⟩ := h
  rcases h3 with ⟨h0, _⟩ | ⟨g, cap, cur, h0, q1, q2, q3, q4, q5, q6⟩
  · rw [h0] at hb'; simp [Value.ownBlock] at hb'
  · have hg : g = b' := by rw [h0] at hb'; simpa [Value.ownBlock] using hb'
    subst hg
    have hlt : i * k + j < L.length * k := by
      have : (i + 1) * k ≤ L.length * k := Nat.mul_le_mul_right _ hil
      rw [Nat.add_mul] at this
      omega
    refine ⟨g, c', hv', hb', by rw [hcell, List.getElem?_eq_getElem hfx], frozen_of_heap q2 _, hf, h1, flat_len hf _, .inr ⟨g, cap, cur.setIfInBounds (i * k + j) u, by rw [h0, List.length_set], q1, heap_set_same q2 _ _, by rw [List.length_set]; exact q3, q4, by simpa using q5, ?_⟩⟩
    rw [flat_set hf hj hy L i hi, ← q6, List.length_set]
    simp only [Array.toList_setIfInBounds]
    rw [List.take_set]
theorem made_flat (hf : ∀ x, (f x).length = k) (hk : 0 < k) (x0 : α) (n : Nat) : (madeCells (f x0).toArray (n * k)).toList = (List.replicate n x0).flatMap f := by
  apply List.ext_getElem?
  intro t
  by_cases ht : t < n * k
  · have hq : t / k < n := by rw [Nat.div_lt_iff_lt_mul hk]; exact ht
    have hr : t % k < k := Nat.mod_lt _ hk
    have h1 : (List.replicate n x0)[t / k]? = some x0 := by rw [List.getElem?_replicate, if_pos hq]
    have h2 : (f x0)[t % k]? = some ((f x0)[t % k]'(by rw [hf]; exact hr)) := List.getElem?_eq_getElem _
    have h3 := flat_get hf _ (t / k) _ h1 (t % k) _ h2
    rw [show t / k * k + t % k = t by rw [Nat.mul_comm]; exact Nat.div_add_mod t k] at h3
    rw [h3, Array.getElem?_toList, Array.getElem?_eq_getElem (by rw [size_madeCells]; exact ht)]
    simp [madeCells, hf, hr]
  · rw [List.getElem?_eq_none (by rw [Array.length_toList, size_madeCells]; omega), List.getElem?_eq_none (by rw [flat_len hf, List.length_replicate]; omega)]
theorem row_made (hf : ∀ x, (f x).length = k) (h1 : ∀ x, ∀ y ∈ f x, y.oneCell' = true) (hk : 0 < k) (x0 : α) (n : Nat) (hn : n ≤ maxLen) (hb : base ≤ w.heap.size) (e : TypeId) :
    Row base e k f (w.alloc (.cells (madeCells (f x0).toArray (n * k)) e)) (.slice (some ⟨w.heap.size, 0, none⟩) n n) (List.replicate n x0) := by
  refine ⟨hf, h1, flat_len hf _, .inr ⟨w.heap.size, n, _, by rw [List.length_replicate], hb, heap_alloc_new w _, by rw [List.length_replicate]; exact Nat.le_refl _, hn, size_madeCells _ _, ?_⟩⟩
  rw [List.length_replicate, ← made_flat hf hk x0 n, List.take_of_length_le (by rw [Array.length_toList, size_madeCells]; exact Nat.le_refl _)]
end Go.Proofs.YtmhlokomlngdmaaGreat
