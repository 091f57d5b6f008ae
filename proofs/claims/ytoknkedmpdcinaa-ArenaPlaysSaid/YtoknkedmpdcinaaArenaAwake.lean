/- The walk of the helper 'awake' of the arena's laws: it returns true. -/
import Derived.Test.YtoknkedmpdcinaaArenaOfInt
import Derived.Test.YtoknkedmpdcinaaArenaOfString
import Derived.Laws.StructEq
namespace Go.Proofs.Ytoknkedmpdcinaa
open Go.RowKit
set_option maxRecDepth 100000 in
set_option maxHeartbeats 2000000 in
theorem awake2_any (w : World) : Calls Try.prog 8 #[] w fun e w' => e = .returned (.bool true) ∧ Below w.heap.size w w' := by
  go_enter Try.func8, Try.ntmps8
  go_wp2_with fail
  refine (show Calls Try.prog 11 #[.int .i64 2] w _ from arNewPool_some 2 w (by decide) (by decide)).mono ?_
  rintro e w1 ⟨p, g, f, rfl, hB1, hp1, hg1, hf1, hP1⟩
  have hpl := heap_lt hP1.2.2.2.2.2.1
  have hgl := heap_lt hP1.2.2.2.2.2.2.1
  have hfl := heap_lt hP1.2.2.2.2.2.2.2
  have hs1 := hB1.size
  have HP1 := Lib.hid hP1
  clear hP1
  go_wp2_with fail
  refine (AStr.gNew (some ⟨p, 0, none⟩) [p, g, f, w1.heap.size + 1, w1.heap.size] w1).mono ?_
  rintro e w2 ⟨rfl, hB2, hs2, hA2⟩
  have HP2 := Lib.hid (HP1.out.below hB2)
  have h3 := AStr.gAlloc_some _ p g f _ _ _ ⟨#[120]⟩ w2 hA2 HP2.out (by decide) (by dsimp only; omega) (by dsimp only; omega) (by dsimp only; omega) (by dsimp only; omega) (by dsimp only; omega) (by simp) (by simp; omega) (by simp)
  simp only [show List.idxOf true (List.replicate 2 true) = 0 from rfl, show (List.replicate 2 (1 : Int)).getD 0 0 = 1 from rfl] at h3
  have HB2 := Lib.hid (hB1.trans (hB2.mono hs1))
  clear hB2 hA2 HP1 hB1
  replace h3 := Lib.hid h3
  go_wp2_with fail
  refine h3.out.mono ?_
  clear h3
  rintro e w3 ⟨rfl, hU3, hP3, b3, hb3, hA3⟩
  have hs3 := hU3.size
  have HB3 := Lib.hid (HB2.out.trans (hU3.below (B := w.heap.size) (by omega) (by simp; omega)))
  have hP3' : PoolIs w3 p g f [1, 1] [false, true] := hP3
  have HP3 := Lib.hid hP3'
  have HA3 := Lib.hid hA3
  clear hP3 hP3' hA3 hU3 HB2 HP2
  go_wp2_with fail
  have hBx := (Below.refl w3.heap.size w3).alloc (Nat.le_refl _) (.cells #[.int .i64 0, .int .u64 1] 40)
  have h4 := AStr.gRelease_some _ p g f _ _ _ 0 1 _ (w3.alloc (.cells #[.int .i64 0, .int .u64 1] 40)) (ArenaG.below HA3.out hBx) (HP3.out.below hBx) (List.mem_singleton.2 rfl) rfl rfl rfl (by dsimp only; omega) (by dsimp only; omega) (by dsimp only; omega) (by dsimp only; omega) (by dsimp only; omega) (by dsimp only; omega) (by simp)
  refine h4.mono ?_
  clear h4 hBx
  rintro e w4 ⟨rfl, hU4, hP4, hA4⟩
  have hs4 := hU4.size
  simp at hs4
  have hP4' : PoolIs w4 p g f [2, 1] [true, true] := hP4
  have hb4 := hU4.heap (heap_alloc_new w3 (.cells #[.int .i64 0, .int .u64 1] 40)) (by simp; omega)
  have HB4 := Lib.hid ((HB3.out.alloc (by omega) (.cells #[.int .i64 0, .int .u64 1] 40)).trans (hU4.below (B := w.heap.size) (by simp; omega) (by simp; omega)))
  have c40 : w4.cell? ⟨w3.heap.size, 0, none⟩ = some (.int .i64 0) := by rw [cell_of_heap hb4]; rfl
  have c41 : w4.cell? ⟨w3.heap.size, 1, none⟩ = some (.int .u64 1) := by rw [cell_of_heap hb4]; rfl
  have h5 := AStr.gAlloc_some _ p g f _ _ _ ⟨#[121]⟩ w4 hA4 hP4' (by decide) (by dsimp only; omega) (by dsimp only; omega) (by dsimp only; omega) (by dsimp only; omega) (by dsimp only; omega) (by simp) (by simp; omega) (by simp)
  simp only [show List.idxOf true [true, true] = 0 from rfl, show ([2, 1] : List Int).getD 0 0 = 2 from rfl] at h5
  replace h5 := Lib.hid h5
  clear hP4 hP4' hA4 hU4 hb4 HP3 HA3 HB3
  go_wp2_with fail
  refine h5.out.mono ?_
  clear h5
  rintro e w5 ⟨rfl, hU5, hP5, b5, hb5, hA5⟩
  have hs5 := hU5.size
  have hP5' : PoolIs w5 p g f [2, 1] [false, true] := hP5
  have HB5 := Lib.hid (HB4.out.trans (hU5.below (B := w.heap.size) (by omega) (by simp; omega)))
  have d0 : w5.cell? ⟨w3.heap.size, 0, none⟩ = some (.int .i64 0) := hU5.cell c40 (by simp; omega)
  have d1 : w5.cell? ⟨w3.heap.size, 1, none⟩ = some (.int .u64 1) := hU5.cell c41 (by simp; omega)
  have hl5 : w3.heap.size < w5.heap.size := block_lt_of_cell d0
  have HP5 := Lib.hid hP5'
  have HA5 := Lib.hid hA5
  clear hP5 hP5' hA5 hU5 c40 c41 HB4
  go_wp2_with fail
  have hBx := (Below.refl w5.heap.size w5).alloc (Nat.le_refl _) (.cells #[.int .i64 0, .int .u64 2] 40)
  have h6 := AStr.gGet_some _ _ _ 0 2 _ (w5.alloc (.cells #[.int .i64 0, .int .u64 2] 40)) (ArenaG.below HA5.out hBx) (List.mem_append_right _ (List.mem_singleton.2 rfl)) rfl rfl
  refine h6.mono ?_
  clear h6
  rintro e w6 ⟨rfl, hB6⟩
  have hA6 := ArenaG.below (ArenaG.below HA5.out hBx) hB6
  have HP6 := Lib.hid ((HP5.out.below hBx).below hB6)
  have HB6 := Lib.hid ((HB5.out.alloc (by omega) (.cells #[.int .i64 0, .int .u64 2] 40)).trans (hB6.mono (by simp; omega)))
  replace d0 := keep hB6 (keep hBx d0)
  replace d1 := keep hB6 (keep hBx d1)
  have hk := Below.heap' hB6 (heap_alloc_new w5 (.cells #[.int .i64 0, .int .u64 2] 40))
  have k0 : w6.cell? ⟨w5.heap.size, 0, none⟩ = some (.int .i64 0) := by rw [cell_of_heap hk]; rfl
  have k1 : w6.cell? ⟨w5.heap.size, 1, none⟩ = some (.int .u64 2) := by rw [cell_of_heap hk]; rfl
  have hb5' := (hA6.2.2.2.2.2 _ (List.mem_append_right _ (List.mem_singleton.2 rfl))).2
  have s0 : w6.cell? ⟨b5, 1, none⟩ = some (.string ⟨#[121]⟩) := by rw [cell_of_heap hb5']; rfl
  have HA6 := Lib.hid hA6
  clear hBx hB6 hk hb5' hA6 HA5 HP5 HB5
  go_wp2_with fail
  have h7 := AStr.gGet_none _ _ _ 0 1 w6 HA6.out (by intro x hx; simp at hx; subst hx; simp)
  refine h7.mono ?_
  clear h7
  rintro e w7 ⟨rfl, hB7⟩
  have HP7 := Lib.hid (HP6.out.below hB7)
  have HB7 := Lib.hid (HB6.out.trans (hB7.mono (by have := HB6.out.size; omega)))
  replace k0 := keep hB7 k0
  replace k1 := keep hB7 k1
  replace s0 := keep hB7 s0
  clear hB7 HP6 HB6 HA6 d0 d1
  go_wp2_with fail
  refine (pFree_any p g f _ _ w7 HP7.out).mono ?_
  rintro e w8 ⟨rfl, rfl⟩
  go_wp2_with fail
  go_ret
  exact ⟨rfl, HB7.out⟩
end Go.Proofs.Ytoknkedmpdcinaa
