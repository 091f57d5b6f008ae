/- The walk of the law ArenaKnown. -/
import Derived.Test.YtoknkedmpdcinaaArenaKw
namespace Go.Proofs.Ytoknkedmpdcinaa
open Go.RowKit
theorem cells2 {w : World} {b : Nat} {x y : Value} {t : TypeId} (h : w.heap[b]? = some (.cells #[x, y] t)) : w.cell? ⟨b, 0, none⟩ = some x ∧ w.cell? ⟨b, 1, none⟩ = some y := by
  refine ⟨?_, ?_⟩ <;> (rw [cell_of_heap h]; rfl)
set_option maxRecDepth 100000 in
set_option maxHeartbeats 4000000 in
theorem knownLaw_walk (w0 : World) : Calls Try.prog 6 #[] w0 fun z w' => z = .returned (.bool true) ∧ Below w0.heap.size w0 w' := by
  go_enter Try.func6, Try.ntmps6
  go_wp2_with fail
  refine (show Calls Try.prog 11 #[.int .i64 2] w0 _ from arNewPool_some 2 w0 (by decide) (by decide)).mono ?_
  rintro e w1 ⟨p, g, f, rfl, hB1, hp1, hg1, hf1, hP1⟩
  replace hP1 : PoolIs w1 p g f [1, 1] [true, true] := hP1
  replace hP1 := Lib.hid hP1
  replace hB1 := Lib.hid hB1
  go_wp2_with fail
  refine (arNewPool_bad 0 w1 (by omega)).mono ?_
  rintro e w2 ⟨rfl, hb2⟩
  have hP2 := Lib.hid (hP1.out.below hb2)
  have hB2 := Lib.hid (hB1.out.trans (hb2.mono hB1.out.size))
  clear hP1 hB1 hb2
  go_wp2_with fail
  refine (arNewPool_bad 4097 w2 (by omega)).mono ?_
  rintro e w3 ⟨rfl, hb3⟩
  have hP3 := Lib.hid (hP2.out.below hb3)
  have hB3 := Lib.hid (hB2.out.trans (hb3.mono hB2.out.size))
  clear hP2 hB2 hb3
  go_wp2_with fail
  refine (show Calls Try.prog 11 #[.int .i64 4096] w3 _ from arNewPool_some 4096 w3 (by decide) (by decide)).mono ?_
  rintro e w4 ⟨p', g', f', rfl, hb4, _, _, _, _⟩
  have hP4 := Lib.hid (hP3.out.below hb4)
  have hB4 := Lib.hid (hB3.out.trans (hb4.mono hB3.out.size))
  clear hP3 hB3 hb4
  have hpl := heap_lt hP4.out.2.2.2.2.2.1
  have hgl := heap_lt hP4.out.2.2.2.2.2.2.1
  have hfl := heap_lt hP4.out.2.2.2.2.2.2.2
  have n1 := hP4.out.2.2.1
  have n2 := hP4.out.2.2.2.1
  have n3 := hP4.out.2.2.2.2.1
  replace n1 := Lib.hid n1
  replace n2 := Lib.hid n2
  replace n3 := Lib.hid n3
  go_wp2_with fail
  refine (AStr.gNew (some ⟨p, 0, none⟩) (rb p g f (w4.heap.size + 1) w4.heap.size (w4.heap.size + 3) (w4.heap.size + 2)) w4).mono ?_
  rintro e w5 ⟨rfl, hb5, hs5, hA5⟩
  have hP5 := Lib.hid (hP4.out.below hb5)
  have hB5 := Lib.hid (hB4.out.trans (hb5.mono hB4.out.size))
  replace hA5 := Lib.hid hA5
  clear hP4 hb5
  go_wp2_with fail
  refine (AInt.gNew (some ⟨p, 0, none⟩) (rb p g f (w4.heap.size + 1) w4.heap.size (w4.heap.size + 3) (w4.heap.size + 2)) w5).mono ?_
  rintro e w6 ⟨rfl, hb6, hs6, hC6⟩
  rw [show w5.heap.size + 1 = w4.heap.size + 3 by omega, show w5.heap.size = w4.heap.size + 2 by omega] at hC6
  rw [show w5.heap.size + 1 = w4.heap.size + 3 by omega]
  have h : KW w0 w6 p g f (w4.heap.size + 1) w4.heap.size (w4.heap.size + 3) (w4.heap.size + 2) [] [1, 1] [true, true] [] [] 0 0 := by
    have hz := hB4.out.size
    refine ⟨hB5.out.trans (hb6.mono hB5.out.size), hP5.out.below hb6, ArenaG.below hA5.out hb6, hC6, Born.nil _ _, Born.nil _ _, ?_, ?_, by simp, by simp⟩
    · have n1 := n1.out
      have n2 := n2.out
      have n3 := n3.out
      refine List.nodup_cons.2 ⟨by simp; omega, List.nodup_cons.2 ⟨by simp; omega, List.nodup_cons.2 ⟨by simp; omega, List.nodup_cons.2 ⟨by simp <;> omega, List.nodup_cons.2 ⟨by simp <;> omega, List.nodup_cons.2 ⟨by simp <;> omega, by simp⟩⟩⟩⟩⟩⟩
    · intro r hr
      simp only [List.mem_cons, List.not_mem_nil, or_false] at hr
      rcases hr with hr | hr | hr | hr | hr | hr | hr <;> omega
  replace h := Lib.hid h
  clear hP5 hB5 hA5 hb6 hC6 hB4 n1 n2 n3 hpl hgl hfl hs5 hs6 hp1 hg1 hf1
  go_wp2_with fail
  generalize w4.heap.size + 3 = ba at *
  generalize w4.heap.size + 2 = bm at *
  generalize w4.heap.size + 1 = aa at *
  generalize w4.heap.size = am at *
  refine (show Calls Try.prog 13 #[.pointer (some ⟨aa, 0, none⟩), .string ⟨#[120]⟩] w6 (fun e w' => e = .returned (.tuple #[.agg #[.int .i64 0, .int .u64 1], .int .i64 0]) ∧ ∃ b, w6.heap.size ≤ b ∧ KW w0 w' p g f aa am ba bm [] [1, 1] [false, true] [⟨0, 1, b, [.string ⟨#[120]⟩], 0⟩] [] 1 0) from h.out.allocA ⟨#[120]⟩ (by decide)).mono ?_
  rintro e w7 ⟨rfl, b7, _, h7⟩
  have h8 := Lib.hid (h7.box (.cells #[.int .i64 0, .int .u64 1] 40))
  clear h h7
  go_wp2_with fail
  generalize w7.alloc (.cells #[.int .i64 0, .int .u64 1] 40) = w8 at *
  generalize w7.heap.size = x0 at *
  refine (show Calls Try.prog 22 #[.pointer (some ⟨ba, 0, none⟩), .int .i64 7] w8 (fun e w' => e = .returned (.tuple #[.agg #[.int .i64 1, .int .u64 1], .int .i64 0]) ∧ ∃ b, w8.heap.size ≤ b ∧ KW w0 w' p g f aa am ba bm [(x0, .cells #[.int .i64 0, .int .u64 1] 40)] [1, 1] [false, false] [⟨0, 1, b7, [.string ⟨#[120]⟩], 0⟩] [⟨1, 1, b, [.int .i64 7], 0⟩] 1 1) from h8.out.allocB 7 (by decide)).mono ?_
  rintro e w9 ⟨rfl, b9, _, h9⟩
  have h10 := Lib.hid (h9.box (.cells #[.int .i64 1, .int .u64 1] 40))
  clear h8 h9
  go_wp2_with fail
  generalize w9.alloc (.cells #[.int .i64 1, .int .u64 1] 40) = w10 at *
  generalize w9.heap.size = y0 at *
  have h10 : KW w0 w10 p g f aa am ba bm [(x0, .cells #[.int .i64 0, .int .u64 1] 40), (y0, .cells #[.int .i64 1, .int .u64 1] 40)] [1, 1] [false, false] [⟨0, 1, b7, [.string ⟨#[120]⟩], 0⟩] [⟨1, 1, b9, [.int .i64 7], 0⟩] 1 1 := h10.out
  refine (AStr.gAlloc_full ⟨aa, am, _, _⟩ p g f _ _ _ ⟨#[121]⟩ w10 h10.fa h10.pool (by decide)).mono ?_
  rintro e w11 ⟨rfl, hb11⟩
  have h11 := h10.below hb11
  obtain ⟨x1, x2⟩ := cells2 (h11.kp _ (List.mem_cons_self ..)).1
  obtain ⟨y1, y2⟩ := cells2 (h11.kp _ (List.mem_cons_of_mem _ (List.mem_cons_self ..))).1
  simp only at x1 x2 y1 y2
  replace h11 := Lib.hid h11
  clear h10 hb11
  go_wp2_with fail
  refine (pFree_any p g f _ _ w11 h11.out.pool).mono ?_
  rintro e w' ⟨rfl, rfl⟩
  go_wp2_with fail
  refine (pLive_any p g f _ _ w11 h11.out.pool).mono ?_
  rintro e w12 ⟨rfl, hb12⟩
  have h12 := h11.out.below hb12
  obtain ⟨x1, x2⟩ := cells2 (h12.kp _ (List.mem_cons_self ..)).1
  obtain ⟨y1, y2⟩ := cells2 (h12.kp _ (List.mem_cons_of_mem _ (List.mem_cons_self ..))).1
  simp only at x1 x2 y1 y2
  replace h12 := Lib.hid h12
  clear h11 hb12
  go_wp2_with fail
  refine (AStr.gGet_some ⟨aa, am, _, _⟩ _ _ 0 1 _ w12 h12.out.fa (List.mem_singleton.2 rfl) rfl rfl).mono ?_
  rintro e w13 ⟨rfl, hb13⟩
  have h13 := h12.out.below hb13
  obtain ⟨x1, x2⟩ := cells2 (h13.kp _ (List.mem_cons_self ..)).1
  obtain ⟨y1, y2⟩ := cells2 (h13.kp _ (List.mem_cons_of_mem _ (List.mem_cons_self ..))).1
  simp only at x1 x2 y1 y2
  replace h13 := Lib.hid h13
  clear h12 hb13
  go_wp2_with fail
  refine (AInt.gGet_none ⟨ba, bm, _, _⟩ _ _ 0 1 w13 h13.out.fb (by simp)).mono ?_
  rintro e w14 ⟨rfl, hb14⟩
  have h14 := h13.out.below hb14
  obtain ⟨x1, x2⟩ := cells2 (h14.kp _ (List.mem_cons_self ..)).1
  obtain ⟨y1, y2⟩ := cells2 (h14.kp _ (List.mem_cons_of_mem _ (List.mem_cons_self ..))).1
  simp only at x1 x2 y1 y2
  replace h14 := Lib.hid h14
  clear h13 hb14
  go_wp2_with fail
  refine (AStr.gGet_none ⟨aa, am, _, _⟩ _ _ 0 2 w14 h14.out.fa (by simp)).mono ?_
  rintro e w15 ⟨rfl, hb15⟩
  have h15 := h14.out.below hb15
  obtain ⟨x1, x2⟩ := cells2 (h15.kp _ (List.mem_cons_self ..)).1
  obtain ⟨y1, y2⟩ := cells2 (h15.kp _ (List.mem_cons_of_mem _ (List.mem_cons_self ..))).1
  simp only at x1 x2 y1 y2
  replace h15 := Lib.hid h15
  clear h14 hb15
  have s1 := (cells2 (h15.out.fa.2.2.2.2.2 _ (List.mem_singleton.2 rfl)).2).2
  go_wp2_with fail
  refine (h15.out.relA _ (List.mem_singleton.2 rfl) 0 1 rfl rfl (by simp)).mono ?_
  rintro e w16 ⟨rfl, h16⟩
  have h16 : KW w0 w16 p g f aa am ba bm [(x0, .cells #[.int .i64 0, .int .u64 1] 40), (y0, .cells #[.int .i64 1, .int .u64 1] 40)] [2, 1] [true, false] [] [⟨1, 1, b9, [.int .i64 7], 0⟩] 1 1 := h16
  obtain ⟨x1, x2⟩ := cells2 (h16.kp _ (List.mem_cons_self ..)).1
  obtain ⟨y1, y2⟩ := cells2 (h16.kp _ (List.mem_cons_of_mem _ (List.mem_cons_self ..))).1
  simp only at x1 x2 y1 y2
  replace h16 := Lib.hid h16
  clear h15 s1
  go_wp2_with fail
  refine (AStr.gRelease_none ⟨aa, am, _, _⟩ _ _ 0 1 w16 h16.out.fa (by simp)).mono ?_
  rintro e w17 ⟨rfl, hb17⟩
  have h17 := h16.out.below hb17
  obtain ⟨x1, x2⟩ := cells2 (h17.kp _ (List.mem_cons_self ..)).1
  obtain ⟨y1, y2⟩ := cells2 (h17.kp _ (List.mem_cons_of_mem _ (List.mem_cons_self ..))).1
  simp only at x1 x2 y1 y2
  replace h17 := Lib.hid h17
  clear h16 hb17
  go_wp2_with fail
  refine (show Calls Try.prog 22 #[.pointer (some ⟨ba, 0, none⟩), .int .i64 8] w17 (fun e w' => e = .returned (.tuple #[.agg #[.int .i64 0, .int .u64 2], .int .i64 0]) ∧ ∃ b, w17.heap.size ≤ b ∧ KW w0 w' p g f aa am ba bm [(x0, .cells #[.int .i64 0, .int .u64 1] 40), (y0, .cells #[.int .i64 1, .int .u64 1] 40)] [2, 1] [false, false] [] [⟨1, 1, b9, [.int .i64 7], 0⟩, ⟨0, 2, b, [.int .i64 8], 1⟩] 1 2) from h17.out.allocB 8 (by decide)).mono ?_
  rintro e w18 ⟨rfl, b18, _, h18⟩
  have h19 := h18.box (.cells #[.int .i64 0, .int .u64 2] 40)
  have h19 : KW w0 (w18.alloc (.cells #[.int .i64 0, .int .u64 2] 40)) p g f aa am ba bm [(x0, .cells #[.int .i64 0, .int .u64 1] 40), (y0, .cells #[.int .i64 1, .int .u64 1] 40), (w18.heap.size, .cells #[.int .i64 0, .int .u64 2] 40)] [2, 1] [false, false] [] [⟨1, 1, b9, [.int .i64 7], 0⟩, ⟨0, 2, b18, [.int .i64 8], 1⟩] 1 2 := h19
  obtain ⟨x1, x2⟩ := cells2 (h19.kp _ (List.mem_cons_self ..)).1
  obtain ⟨y1, y2⟩ := cells2 (h19.kp _ (List.mem_cons_of_mem _ (List.mem_cons_self ..))).1
  obtain ⟨z1, z2⟩ := cells2 (h19.kp _ (List.mem_cons_of_mem _ (List.mem_cons_of_mem _ (List.mem_cons_self ..)))).1
  simp only at x1 x2 y1 y2 z1 z2
  replace h19 := Lib.hid h19
  clear h17 h18
  go_wp2_with fail
  generalize w18.alloc (.cells #[.int .i64 0, .int .u64 2] 40) = w19 at *
  generalize w18.heap.size = z0 at *
  refine (AStr.gGet_none ⟨aa, am, _, _⟩ _ _ 0 1 w19 h19.out.fa (by simp)).mono ?_
  rintro e w20 ⟨rfl, hb20⟩
  have h20 := h19.out.below hb20
  obtain ⟨x1, x2⟩ := cells2 (h20.kp _ (List.mem_cons_self ..)).1
  obtain ⟨y1, y2⟩ := cells2 (h20.kp _ (List.mem_cons_of_mem _ (List.mem_cons_self ..))).1
  obtain ⟨z1, z2⟩ := cells2 (h20.kp _ (List.mem_cons_of_mem _ (List.mem_cons_of_mem _ (List.mem_cons_self ..)))).1
  simp only at x1 x2 y1 y2 z1 z2
  replace h20 := Lib.hid h20
  clear h19 hb20
  go_wp2_with fail
  refine (AInt.gGet_some ⟨ba, bm, _, _⟩ _ _ 0 2 _ w20 h20.out.fb (List.mem_cons_of_mem _ (List.mem_singleton.2 rfl)) rfl rfl).mono ?_
  rintro e w21 ⟨rfl, hb21⟩
  have h21 := h20.out.below hb21
  obtain ⟨x1, x2⟩ := cells2 (h21.kp _ (List.mem_cons_self ..)).1
  obtain ⟨y1, y2⟩ := cells2 (h21.kp _ (List.mem_cons_of_mem _ (List.mem_cons_self ..))).1
  obtain ⟨z1, z2⟩ := cells2 (h21.kp _ (List.mem_cons_of_mem _ (List.mem_cons_of_mem _ (List.mem_cons_self ..)))).1
  simp only at x1 x2 y1 y2 z1 z2
  replace h21 := Lib.hid h21
  clear h20 hb21
  go_wp2_with fail
  refine (AInt.aHandles_any ⟨ba, bm, _, _⟩ _ _ w21 h21.out.fb h21.out.bB (by simp)).mono ?_
  rintro e w22 ⟨ha, hc, rfl, hrow, hb22⟩
  have hho : handsOf [⟨1, 1, b9, [.int .i64 7], 0⟩, ⟨0, 2, b18, [.int .i64 8], 1⟩] = [((0 : Int), (2 : Int)), (1, 1)] :=
    (slots_sorted (by simp) (show [((0 : Int), (2 : Int)), (1, 1)].Perm [((1 : Int), (1 : Int)), (0, 2)] from .swap _ _ _) (by simp)).symm
  simp only at hrow ⊢
  rw [hho] at hrow ⊢
  obtain ⟨hb, hcap, he, _, _, hbl, _, _, _, r0⟩ := hrow.at (i := 0) (x := (0, 2)) rfl
  obtain ⟨_, _, he', _, _, _, _, _, _, r1⟩ := hrow.at (i := 1) (x := (1, 1)) rfl
  injection he with he1 he2 he3
  injection he' with he1' he2' he3'
  have hbb := he1.symm.trans he1'
  injection hbb with hbb
  injection hbb with hbb
  subst hbb he1 he3
  have q0 := r0 0 _ rfl
  have q1 := r0 1 _ rfl
  have q2 := r1 0 _ rfl
  have q3 := r1 1 _ rfl
  simp only [Nat.zero_mul, Nat.zero_add, Nat.one_mul, Nat.add_zero] at q0 q1 q2 q3
  clear r0 r1 he1' he2' he3' he2 hho hrow
  have h22 := h21.out.below hb22
  obtain ⟨x1, x2⟩ := cells2 (h22.kp _ (List.mem_cons_self ..)).1
  obtain ⟨y1, y2⟩ := cells2 (h22.kp _ (List.mem_cons_of_mem _ (List.mem_cons_self ..))).1
  obtain ⟨z1, z2⟩ := cells2 (h22.kp _ (List.mem_cons_of_mem _ (List.mem_cons_of_mem _ (List.mem_cons_self ..)))).1
  simp only at x1 x2 y1 y2 z1 z2
  replace h22 := Lib.hid h22
  clear h21 hb22
  go_wp2_with fail
  obtain ⟨s1, s2⟩ := cells2 (h22.out.fb.2.2.2.2.2 _ (List.mem_cons_of_mem _ (List.mem_singleton.2 rfl))).2
  simp only at s2
  have kz1 := cell_regrown z1
  have kz2 := cell_regrown z2
  have ky1 := cell_regrown y1
  have ky2 := cell_regrown y2
  have k0 := cell_regrown q0
  have k1 := cell_regrown q1
  have k2 := cell_regrown q2
  have k3 := cell_regrown q3
  have k4 := cell_regrown s2
  have hW : ∀ d os, _ := fun d os => h22.out.below (below_regrown w22 d os)
  have cA : ∀ d os, _ := fun d os => rg_below (awake2_any (Sort.grow (redrawn w22 d) os))
  have cL : ∀ d os, _ := fun d os => rg_below (show Calls Try.prog 17 #[.pointer (some ⟨aa, 0, none⟩)] (Sort.grow (redrawn w22 d) os) (fun e w' => e = .returned (.int .i64 0) ∧ Below _ _ w') from AStr.gLive ⟨aa, am, _, _⟩ _ _ _ (hW d os).fa)
  have cF : ∀ d os, _ := fun d os => rg_same (pFree_nil (Sort.grow (redrawn w22 d) os))
  have cV : ∀ d os, _ := fun d os => rg_same (pLive_nil (Sort.grow (redrawn w22 d) os))
  have cN : ∀ d os, _ := fun d os => rg_below (pRoom_nil 0 (Sort.grow (redrawn w22 d) os))
  have cR0 : ∀ d os, _ := fun d os => rg_below (show Calls Try.prog 21 #[.pointer (some ⟨p, 0, none⟩), .int .i64 0] (Sort.grow (redrawn w22 d) os) (fun e w' => e = .returned (.bool true) ∧ Below _ _ w') from pRoom_any p g f _ _ 0 _ (hW d os).pool)
  have cR1 : ∀ d os, _ := fun d os => rg_below (show Calls Try.prog 21 #[.pointer (some ⟨p, 0, none⟩), .int .i64 (-1)] (Sort.grow (redrawn w22 d) os) (fun e w' => e = .returned (.bool true) ∧ Below _ _ w') from pRoom_any p g f _ _ (-1) _ (hW d os).pool)
  have cR2 : ∀ d os, _ := fun d os => rg_below (show Calls Try.prog 21 #[.pointer (some ⟨p, 0, none⟩), .int .i64 1] (Sort.grow (redrawn w22 d) os) (fun e w' => e = .returned (.bool false) ∧ Below _ _ w') from pRoom_any p g f _ _ 1 _ (hW d os).pool)
  have hB2 := h22.out.bel
  have hsz := hB2.size
  replace hB2 := Lib.hid hB2
  replace hW := Lib.hid hW
  clear h22 x1 x2 y1 y2 z1 z2 q0 q1 q2 q3 s1 s2
  refine wp_region_quiet_below (by kernel_rfl) (by kernel_rfl) ?_
  repeat (first | go_big_quiet_step (first | (go_at_call 8; exact cA _ _) | (go_at_call 17; exact cL _ _) | (go_at_call 16; exact cF _ _) | (go_at_call 19; exact cV _ _) | (go_at_call 21; first | with_reducible exact cN _ _ | with_reducible exact cR0 _ _ | with_reducible exact cR1 _ _ | with_reducible exact cR2 _ _)) | quiet_step (first | (go_at_call 8; exact cA _ _) | (go_at_call 17; exact cL _ _) | (go_at_call 16; exact cF _ _) | (go_at_call 19; exact cV _ _) | (go_at_call 21; first | with_reducible exact cN _ _ | with_reducible exact cR0 _ _ | with_reducible exact cR1 _ _ | with_reducible exact cR2 _ _)))
  refine wpQuiet_nil ?_
  intro w3 hw3
  obtain ⟨⟨dq, osq⟩, hw4⟩ := hw3
  have hB3 := hB2.out.trans ((below_regrown w22 dq osq).mono hsz)
  rw [← hw4] at hB3
  clear hw4 hB2 hsz
  go_wp2_with fail
  go_ret
  exact ⟨rfl, hB3⟩
end Go.Proofs.Ytoknkedmpdcinaa
