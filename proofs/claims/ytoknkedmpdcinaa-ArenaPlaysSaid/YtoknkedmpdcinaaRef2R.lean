/- The document's pool of layer 2: Release, Handles, NewPool. -/
import Derived.Test.YtoknkedmpdcinaaRef2W
namespace Go.Proofs.Ytoknkedmpdcinaa
open Go.RowKit
theorem aliveB_some {SL : List Sl} {k : Nat} {hs hg : Int} (h : aliveB SL k hs hg = true) : ∃ (i : Nat) (s : Sl), hs = i ∧ SL[i]? = some s ∧ s.who = k ∧ s.gen = hg := by
  unfold aliveB at h
  rw [Bool.and_eq_true, decide_eq_true_eq] at h
  obtain ⟨h0, h⟩ := h
  cases hq : SL[hs.toNat]? with
  | none => rw [hq] at h; cases h
  | some s =>
    rw [hq] at h
    simp at h
    exact ⟨hs.toNat, s, by omega, hq, h.1, h.2⟩
theorem aliveB_of {SL : List Sl} {k i : Nat} {s : Sl} (h : SL[i]? = some s) (hk : s.who = k) : aliveB SL k i s.gen = true := by
  simp [aliveB, h, hk]
set_option maxRecDepth 100000 in
theorem r2Release_no (b : Option Nat) (SL : List Sl) (k : Nat) (hs hg : Int) (w : World) (h : Rf w b SL) (ha : aliveB SL k hs hg = false) : Calls Try.prog 46 #[rptr b, .int .i64 k, .agg #[.int .i64 hs, .int .u64 hg]] w fun e w' => e = .returned (.bool false) ∧ Below w.heap.size w w' := by
  have hB : Below w.heap.size w (w.alloc (.cells #[.int .i64 hs, .int .u64 hg] 40)) := (Below.refl _ _).alloc (Nat.le_refl _) _
  have hcl := r2Alive_any b SL k hs hg _ (h.below hB)
  rw [ha] at hcl
  replace hcl := Lib.hid hcl
  unfold rptr at *
  clear h
  go_enter Try.func46, Try.ntmps46
  go_wp2_with fail
  refine hcl.out.mono ?_
  clear hcl
  rintro e w1 ⟨rfl, hb1⟩
  replace hB := Lib.hid (hB.trans (hb1.mono hB.size))
  clear hb1
  go_wp2_with fail
  go_ret
  exact ⟨rfl, hB.out⟩
set_option maxRecDepth 100000 in
set_option maxHeartbeats 1000000 in
theorem r2Release_yes (b : Nat) (a : Option Addr) (c : Nat) (SL : List Sl) (k i : Nat) (hg : Int) (s : Sl) (w : World) (h : RfQ w b a c SL) (hs : SL[i]? = some s) (hk : s.who = k) (hgg : s.gen = hg) :
    Calls Try.prog 46 #[.pointer (some ⟨b, 0, none⟩), .int .i64 k, .agg #[.int .i64 i, .int .u64 hg]] w fun e w' => e = .returned (.bool true) ∧ RfQ w' b a c (SL.set i ⟨IntKind.u64.wrap (hg + 1), 0, ⟨#[]⟩⟩) ∧ Upd (Value.slice a SL.length c).ownBlock.toList w w' := by
  subst hk hgg
  have hiL := (List.getElem?_eq_some_iff.1 hs).1
  have hB : Below w.heap.size w (w.alloc (.cells #[.int .i64 i, .int .u64 s.gen] 40)) := (Below.refl _ _).alloc (Nat.le_refl _) _
  have hcl := r2Alive_any (some b) SL s.who i s.gen _ (h.rf.below hB)
  rw [aliveB_of hs rfl] at hcl
  replace hcl := Lib.hid hcl
  have hbl := heap_lt h.blk
  replace h := Lib.hid h
  replace hs := Lib.hid hs
  go_enter Try.func46, Try.ntmps46
  go_wp2_with fail
  refine hcl.out.mono ?_
  clear hcl
  rintro e w1 ⟨rfl, hb1⟩
  have hz1 := hb1.size
  simp at hz1
  have hx := Below.heap' hb1 (heap_alloc_new w (.cells #[.int .i64 i, .int .u64 s.gen] 40))
  have hB1 : Below w.heap.size w w1 := hB.trans (hb1.mono hB.size)
  have hR1 := h.out.upd (Upd.of_below (S := []) hB1) (by simp) (by simp)
  have hR2 := hR1.upd (w' := w1.drew) (S := []) ((Upd.refl _ _).drew) (by simp) (by simp)
  obtain ⟨q, rfl, f0, ql, hR3, hu3⟩ := hR2.set (y := ⟨IntKind.u64.wrap (s.gen + 1), s.who, s.x⟩) (j := 0) (u := .int .u64 (IntKind.u64.wrap (s.gen + 1))) hs.out (by decide) rfl
  have hs3 : (SL.set i ⟨IntKind.u64.wrap (s.gen + 1), s.who, s.x⟩)[i]? = some ⟨IntKind.u64.wrap (s.gen + 1), s.who, s.x⟩ := by rw [List.getElem?_set, if_pos rfl, if_pos hiL]
  obtain ⟨q', e1, f1, _, hR4, hu4⟩ := hR3.set (y := ⟨IntKind.u64.wrap (s.gen + 1), 0, s.x⟩) (j := 1) (u := .int .i64 0) hs3 (by decide) rfl
  injection e1 with e1
  injection e1 with e1
  subst e1
  rw [List.set_set] at hR4
  have hs4 : (SL.set i ⟨IntKind.u64.wrap (s.gen + 1), 0, s.x⟩)[i]? = some ⟨IntKind.u64.wrap (s.gen + 1), 0, s.x⟩ := by rw [List.getElem?_set, if_pos rfl, if_pos hiL]
  obtain ⟨q', e1, f2, _, hR5, hu5⟩ := hR4.set (y := ⟨IntKind.u64.wrap (s.gen + 1), 0, ⟨#[]⟩⟩) (j := 2) (u := .string ⟨#[]⟩) hs4 (by decide) rfl
  injection e1 with e1
  injection e1 with e1
  subst e1
  rw [List.set_set] at hR5
  obtain ⟨q', c', d0, _, _, hc, m0, m1, m2⟩ := hR1.rf.at hs.out
  have d0' := d0
  rw [cell_of_heap hR1.blk] at d0'
  injection d0' with d0'
  injection d0' with d0' _ d1'
  injection d0' with d0'
  injection d0' with d0'
  subst d0' d1'
  have x0 : w1.cell? ⟨w.heap.size, 0, none⟩ = some (.int .i64 i) := by rw [cell_of_heap hx]; rfl
  have x1 : w1.cell? ⟨w.heap.size, 1, none⟩ = some (.int .u64 s.gen) := by rw [cell_of_heap hx]; rfl
  simp only [Nat.add_zero] at f0 hR5 hu3 f1 f2 hu4 hu5
  have hU : Upd [q] w ((((w1.drew.setCell ⟨q, i * 3, none⟩ (.int .u64 (IntKind.u64.wrap (s.gen + 1)))).setCell ⟨q, i * 3 + 1, none⟩ (.int .i64 0)).setCell ⟨q, i * 3 + 2, none⟩ (.string ⟨#[]⟩))) := (((Upd.of_below hB1).drew.trans hu3).trans hu4).trans hu5
  have hfin := Lib.hid (And.intro hR5 hU)
  have fz : ∀ j, w1.frozen? ⟨q, j, none⟩ = false := by
    rcases hR1.row.2.2.2 with ⟨h0, _⟩ | ⟨g', cap, cur, h0, _, h4, _⟩
    · cases h0
    · injection h0 with h0
      injection h0 with h0
      injection h0 with h0
      subst h0
      exact frozen_of_heap h4
  have z0 := fz (i * 3)
  have z1 := fz (i * 3 + 1)
  have z2 := fz (i * 3 + 2)
  have ql1 : q < w1.heap.size := ql
  have bl1 : b < w1.heap.size := heap_lt hR1.blk
  clear hR1 hR2 hR3 hR4 hR5 hu3 hu4 hu5 hU hB1 hb1 hB hx hs3 hs4 fz f0 f1 f2
  go_wp2_with fail
  go_still_tail 11, (by kernel_rfl)
  change wpList _ _ _ _ _ w1.drew
  go_wp2_with fail
  go_ret
  exact ⟨rfl, hfin.out⟩
end Go.Proofs.Ytoknkedmpdcinaa
