/- The document's Epoch: Pin of a task that is pinned. -/
import Derived.Test.YtidiefcgepllmaaRef4P
namespace Go.Proofs.Ytidiefcgepllmaa
open Go.RowKit
set_option maxRecDepth 100000 in
theorem rPin_old (base wp : Nat) (P : List Int) (L : List (Int × List Int)) (O : List Nat) (t : Int) (w : World) (h : RefJ base wp P L O w) (hP : P.length ≤ 100000) (hold : t ∈ P) :
    Calls Try.prog 19 #[.pointer (some ⟨wp, 0, none⟩), .int .i64 t] w fun z w' => z = .returned (.bool false) ∧ w' = w := by
  obtain ⟨pv, d0, hrow, hK⟩ := h.pin
  have hc1 := Lib.hid (has_any base _ P t w hrow hP)
  rw [decide_eq_true hold] at hc1
  have hlow := h.low.2
  clear hK h hrow
  go_enter Try.func19, Try.ntmps19
  go_wp2_with fail
  refine hc1.out.mono ?_
  clear hc1
  rintro z w0 ⟨rfl, rfl⟩
  go_wp2_with fail
  go_ret
  exact ⟨rfl, rfl⟩
end Go.Proofs.Ytidiefcgepllmaa
