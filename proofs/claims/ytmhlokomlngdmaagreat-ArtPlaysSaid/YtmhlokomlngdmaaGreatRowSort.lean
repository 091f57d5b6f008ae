/- A slice of the call's own under the library's sort of elements of k cells. No program in sight. -/
import Derived.Test.YtmhlokomlngdmaaGreatRow
import Derived.Shelf.SlSortCmp.NoneTotal
namespace Go.Proofs.YtmhlokomlngdmaaGreat
open Go.RowKit Go.Sort
variable {α : Type} [Inhabited α] {base k : Nat} {e : TypeId} {f : α → List Value} {w : World} {L : List α}
theorem flatK_eq (hf : ∀ x, (f x).length = k) (hk : 0 < k) (L : List α) : (flatK f k L.toArray).toList = L.flatMap f := by
  apply List.ext_getElem?
  intro t
  by_cases ht : t < L.length * k
  · have hq : t / k < L.length := by rw [Nat.div_lt_iff_lt_mul hk]; exact ht
    have hr : t % k < k := Nat.mod_lt _ hk
    have h1 : L[t / k]? = some L[t / k] := List.getElem?_eq_getElem hq
    have h2 : (f L[t / k])[t % k]? = some ((f L[t / k])[t % k]'(by rw [hf]; exact hr)) := List.getElem?_eq_getElem _
    have h3 := flat_get hf L (t / k) _ h1 (t % k) _ h2
    rw [show t / k * k + t % k = t by rw [Nat.mul_comm]; exact Nat.div_add_mod t k] at h3
    rw [h3, Array.getElem?_toList, Array.getElem?_eq_getElem (by rw [size_flatK]; simpa using ht)]
    have h4 := get_flatK f k L.toArray t (by simpa using ht)
    rw [getElem!_pos _ t (by rw [size_flatK]; simpa using ht)] at h4
    rw [h4]
    simp [getElem!_pos, hq, h2]
  · rw [List.getElem?_eq_none (by rw [Array.length_toList, size_flatK]; simpa using ht), List.getElem?_eq_none (by rw [flat_len hf]; omega)]
theorem Row.holdsK {b n cap : Nat} (h : Row base e k f w (.slice (some ⟨b, 0, none⟩) n cap) L) (hk : 0 < k) : HoldsK f k w b 0 L.toArray := by
  rcases h.cases with ⟨h0, _⟩ | ⟨b', cap', h0, _, _, _, _, _, hc, hfz⟩
  · cases h0
  · injection h0 with h0 _ _
    injection h0 with h0
    injection h0 with h0
    subst h0
    intro j hj
    have hj' : j < (L.flatMap f).length := by rw [flat_len h.1]; simpa using hj
    refine ⟨?_, by rw [Nat.zero_add]; exact hfz _⟩
    have h2 := hc j _ (List.getElem?_eq_getElem hj')
    rw [Nat.zero_add, h2]
    have h3 := flatK_eq h.1 hk L
    have h4 : (flatK f k L.toArray)[j]! = (L.flatMap f)[j] := by
      rw [getElem!_pos _ j hj]
      have : (flatK f k L.toArray).toList[j]'(by simpa using hj) = (L.flatMap f)[j] := by simp only [h3]
      simpa using this
    rw [id, h4]
theorem take_putCells_id (cur : Array Value) (ts : List Value) (h : ts.length ≤ cur.size) : (putCells id 0 ts.toArray cur).toList.take ts.length = ts := by
  apply List.ext_getElem?
  intro j
  by_cases hj : j < ts.length
  · rw [List.getElem?_take_of_lt hj, Array.getElem?_toList]
    simp [putCells, hj, Nat.lt_of_lt_of_le hj h]
  · rw [List.getElem?_eq_none (by simp; omega), List.getElem?_eq_none (by omega)]
theorem Row.sorted {b n cap : Nat} (h : Row base e k f w (.slice (some ⟨b, 0, none⟩) n cap) L) (hk : 0 < k) (L' : List α) (hl : L'.length = L.length) (m : Nat) (os : Array Obj) :
    Row base e k f (sortWorldK f k w b 0 m L'.toArray os) (.slice (some ⟨b, 0, none⟩) n cap) L' ∧ Upd [b] w (sortWorldK f k w b 0 m L'.toArray os) := by
  have hfl : (flatK f k L'.toArray) = (L'.flatMap f).toArray := by rw [← flatK_eq h.1 hk L']
  obtain ⟨hf, h1, h2, h3⟩ := h
  rcases h3 with ⟨h0, _⟩ | ⟨g, cap', cur, h0, q1, q2, q3, q4, q5, q6⟩
  · cases h0
  · have hL : n = L.length := by injection h0
    injection h0 with e1 e2 e3
    injection e1 with e1
    injection e1 with e1
    subst e1 e3
    have hgl : b < w.heap.size := heap_lt q2
    have hb' : (sortWorldK f k w b 0 m L'.toArray os).heap[b]? = some (.cells (putCells id 0 (L'.flatMap f).toArray cur) e (0, 0)) := by
      unfold sortWorldK putRowK
      rw [hfl, heap_grow_old _ _ (by simp [putRow, mapBlock, Sort.ahead]; exact hgl)]
      simp [putRow, mapBlock, Sort.ahead, Array.getElem?_modify, q2, onCells]
    have hlen : (L'.flatMap f).length ≤ cur.size := by
      rw [flat_len hf, hl, q5]
      exact Nat.mul_le_mul_right _ q3
    refine ⟨⟨hf, h1, flat_len hf L', .inr ⟨b, cap, _, ?_, q1, hb', by rw [hl]; exact q3, q4, by simp [putCells, q5], ?_⟩⟩, ⟨rfl, rfl, rfl, ?_, fun j hj hn => ?_⟩⟩
    · rw [hl, ← hL]
    · rw [← flat_len hf]
      exact take_putCells_id cur _ hlen
    · simp [sortWorldK, putRowK, grow, putRow, mapBlock, Sort.ahead]
    · have hjb : b ≠ j := fun e1 => hn (by rw [e1]; simp)
      unfold sortWorldK putRowK
      rw [heap_grow_old _ _ (by simpa [putRow, mapBlock, Sort.ahead] using hj)]
      simp [putRow, mapBlock, Sort.ahead, Array.getElem?_modify, hjb]
end Go.Proofs.YtmhlokomlngdmaaGreat
