/- The helper 'awake' of the root's laws. -/
import Derived.Test.YtmmnheobpbmniaaRootDirs
namespace Go.Proofs.Ytmmnheobpbmniaa
open Go.RowKit
set_option maxRecDepth 100000 in
set_option maxHeartbeats 2000000 in
theorem awake19_any (w : World) : Calls Try.prog 8 #[] w fun e w' => e = .returned (.bool true) ∧ Below w.heap.size w w' := by
  go_enter Try.func8, Try.ntmps8
  go_wp2_with fail
  refine (dirs_any _).mono ?_
  rintro e w1 ⟨d0, d1, d2, d3, c0, c1, rfl, hne, h0, h1, hb1⟩
  have HB1 := Lib.hid hb1
  have hd0 := Lib.hid (Below.heap' ((Below.refl w1.heap.size w1).alloc (Nat.le_refl _) (.cells #[.pointer (some ⟨d0, 0, none⟩), .pointer (some ⟨d1, 0, none⟩), .pointer (some ⟨d2, 0, none⟩), .pointer (some ⟨d3, 0, none⟩)] 25)) h0)
  have hd1 := Lib.hid (Below.heap' ((Below.refl w1.heap.size w1).alloc (Nat.le_refl _) (.cells #[.pointer (some ⟨d0, 0, none⟩), .pointer (some ⟨d1, 0, none⟩), .pointer (some ⟨d2, 0, none⟩), .pointer (some ⟨d3, 0, none⟩)] 25)) h1)
  have hl := heap_alloc_new w1 (.cells #[.pointer (some ⟨d0, 0, none⟩), .pointer (some ⟨d1, 0, none⟩), .pointer (some ⟨d2, 0, none⟩), .pointer (some ⟨d3, 0, none⟩)] 25)
  have hL := Lib.hid hl
  have hB0 := Lib.hid ((HB1.out).trans (((Below.refl w1.heap.size w1).alloc (Nat.le_refl _) (.cells #[.pointer (some ⟨d0, 0, none⟩), .pointer (some ⟨d1, 0, none⟩), .pointer (some ⟨d2, 0, none⟩), .pointer (some ⟨d3, 0, none⟩)] 25)).mono HB1.out.size))
  clear hb1 h0 h1 hl
  go_wp2_with fail
  generalize w1.alloc (.cells #[.pointer (some ⟨d0, 0, none⟩), .pointer (some ⟨d1, 0, none⟩), .pointer (some ⟨d2, 0, none⟩), .pointer (some ⟨d3, 0, none⟩)] 25) = w2 at *
  generalize w1.heap.size = lb at *
  refine (New_any (some ⟨d0, 0, none⟩) w2).mono ?_
  rintro e w3 ⟨c, r, rfl, hr, hb3, hc, hrr⟩
  have hrl : lb ≠ r := by have := heap_lt hL.out; omega
  have hB3 := Lib.hid (hB0.out.trans (hb3.mono hB0.out.size))
  have hwr : w.heap.size ≤ r := by have := hB0.out.size; omega
  have hL3 := Lib.hid (Below.heap' hb3 hL.out)
  have hd03 := Lib.hid (Below.heap' hb3 hd0.out)
  have hd13 := Lib.hid (Below.heap' hb3 hd1.out)
  have n0 : d0 ≠ r := by have := heap_lt hd0.out; omega
  have n1 : d1 ≠ r := by have := heap_lt hd1.out; omega
  have hload := Lib.hid hr.Load
  clear hr hb3 hd0 hd1 hL hB0
  go_wp2_with fail
  refine hload.out.mono ?_
  clear hload
  rintro e w4 ⟨rfl, hr, hu⟩
  have hL4 := Lib.hid (hu.heap hL3.out (by simp; exact hrl))
  have hd04 := Lib.hid (hu.heap hd03.out (by simp; exact n0))
  have hd14 := Lib.hid (hu.heap hd13.out (by simp; exact n1))
  have hB4 := Lib.hid (hB3.out.trans (hu.below (B := w.heap.size) (by have := hB3.out.size; omega) (by simp; exact hwr)))
  have hswap := Lib.hid (hr.Swap_yes (by omega) (some ⟨d1, 0, none⟩))
  have m1 : w4.cell? ⟨lb, 1, none⟩ = some (.pointer (some ⟨d1, 0, none⟩)) := by rw [cell_of_heap hL4.out]; rfl
  clear hr hu hL3 hd03 hd13 hB3
  go_wp2_with fail
  refine hswap.out.mono ?_
  clear hswap m1
  rintro e w5 ⟨rfl, hr, hu⟩
  have hL5 := Lib.hid (hu.heap hL4.out (by simp; exact hrl))
  have hd05 := Lib.hid (hu.heap hd04.out (by simp; exact n0))
  have hd15 := Lib.hid (hu.heap hd14.out (by simp; exact n1))
  have hB5 := Lib.hid (hB4.out.trans (hu.below (B := w.heap.size) (by have := hB4.out.size; omega) (by simp; exact hwr)))
  have hload := Lib.hid hr.Load
  clear hr hu hL4 hd04 hd14 hB4
  go_wp2_with fail
  refine hload.out.mono ?_
  clear hload
  rintro e w6 ⟨rfl, hr, hu⟩
  have hL6 := hu.heap hL5.out (by simp; exact hrl)
  have hd06 := hu.heap hd05.out (by simp; exact n0)
  have hd16 := hu.heap hd15.out (by simp; exact n1)
  have hB6 := Lib.hid (hB5.out.trans (hu.below (B := w.heap.size) (by have := hB5.out.size; omega) (by simp; exact hwr)))
  have m0 : w6.cell? ⟨lb, 0, none⟩ = some (.pointer (some ⟨d0, 0, none⟩)) := by rw [cell_of_heap hL6]; rfl
  have m1 : w6.cell? ⟨lb, 1, none⟩ = some (.pointer (some ⟨d1, 0, none⟩)) := by rw [cell_of_heap hL6]; rfl
  have e1 := eq_dir
  have e2 := neq_dir_other w6 hne hd06 hd16
  clear hr hu hL5 hd05 hd15 hB5 hL6 hd06 hd16
  go_wp2_with fail
  go_ret
  exact ⟨rfl, hB6.out⟩
end Go.Proofs.Ytmmnheobpbmniaa
