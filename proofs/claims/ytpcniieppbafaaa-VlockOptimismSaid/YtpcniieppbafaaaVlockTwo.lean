/- The contracts of package vlock's cells that take, give and end, and of the reference's words. Conditions: a cell's address holds an unsigned number and is not frozen. -/
import Derived.Test.YtpcniieppbafaaaVlock
import Derived.Test.YtpcniieppbafaaaLib
import Derived.Outline
namespace Go.Proofs.Ytpcniieppbafaaa
open Go.RowKit
open Vl
theorem cTake_yes (p : Addr) (x : Int) (w : World) (h0 : w.cell? p = some (.int .u64 x)) (f0 : w.frozen? p = false) (h : opn x = true) :
    Calls Try.prog 14 #[.pointer (some p)] w fun e w' => e = .returned (.tuple #[.int .u64 x, .bool true]) ∧ w.setCell p (.int .u64 (lck x)) = w' := by
  go_enter Try.func14, Try.ntmps14
  go_wp2
  refine wp_loop_rounds 1 ?_
  rw [rounds_succ]
  go_wp2_with (first | (go_at_call 19; refine (cLoad_any _ _ _ h0).mono ?_; rintro e w' ⟨rfl, rfl⟩) | (go_at_call 21; refine (vLock_yes _ _ h).mono ?_; rintro e w' ⟨rfl, rfl⟩) | (go_at_call 12; refine (cCas_hit _ _ _ _ h0 f0).mono ?_; rintro e w' ⟨rfl, rfl⟩))
  go_ret2
  exact ⟨rfl, rfl⟩
theorem cTake_no (p : Addr) (x : Int) (w : World) (h0 : w.cell? p = some (.int .u64 x)) (h : opn x = false) :
    Calls Try.prog 14 #[.pointer (some p)] w fun e w' => e = .returned (.tuple #[.int .u64 x, .bool false]) ∧ w = w' := by
  go_enter Try.func14, Try.ntmps14
  go_wp2
  refine wp_loop_rounds 1 ?_
  rw [rounds_succ]
  go_wp2_with (first | (go_at_call 19; refine (cLoad_any _ _ _ h0).mono ?_; rintro e w' ⟨rfl, rfl⟩) | (go_at_call 21; refine (vLock_no _ _ h).mono ?_; rintro e w' ⟨rfl, rfl⟩))
  go_ret2
  exact ⟨rfl, rfl⟩
theorem cTake_nil (w : World) :
    Calls Try.prog 14 #[.pointer none] w fun e w' => e = .returned (.tuple #[.int .u64 0, .bool false]) ∧ w = w' := by
  have h : opn 0 = true := rfl
  go_enter Try.func14, Try.ntmps14
  go_wp2
  refine wp_loop_rounds 1 ?_
  rw [rounds_succ]
  go_wp2_with (first | (go_at_call 19; refine (cLoad_nil _).mono ?_; rintro e w' ⟨rfl, rfl⟩) | (go_at_call 21; refine (vLock_yes _ _ h).mono ?_; rintro e w' ⟨rfl, rfl⟩))
  go_ret2
  exact ⟨rfl, rfl⟩
theorem cGive_yes (p : Addr) (x : Int) (w : World) (h0 : w.cell? p = some (.int .u64 x)) (f0 : w.frozen? p = false) (h : lkd x = true) (h' : ded x = false) :
    Calls Try.prog 15 #[.pointer (some p)] w fun e w' => e = .returned (.bool true) ∧ w.setCell p (.int .u64 (unl x)) = w' := by
  go_enter Try.func15, Try.ntmps15
  go_wp2_with (go_at_call 32; go_in)
  refine wp_loop_rounds 1 ?_
  rw [rounds_succ]
  go_wp2_with (first | (go_at_call 19; refine (cLoad_any _ _ _ h0).mono ?_; rintro e w' ⟨rfl, rfl⟩) | (go_at_call 26; refine (vLocked_any _ _).mono ?_; rintro e w' ⟨rfl, rfl⟩) | (go_at_call 27; refine (vDead_any _ _).mono ?_; rintro e w' ⟨rfl, rfl⟩) | (go_at_call 23; refine (vUnlock_yes _ _ h).mono ?_; rintro e w' ⟨rfl, rfl⟩) | (go_at_call 12; refine (cCas_hit _ _ _ _ h0 f0).mono ?_; rintro e w' ⟨rfl, rfl⟩))
  go_ret
  exact ⟨rfl, rfl⟩
theorem cEnd_yes (p : Addr) (x : Int) (w : World) (h0 : w.cell? p = some (.int .u64 x)) (f0 : w.frozen? p = false) (h : lkd x = true) (h' : ded x = false) :
    Calls Try.prog 17 #[.pointer (some p)] w fun e w' => e = .returned (.bool true) ∧ w.setCell p (.int .u64 (kil1 x)) = w' := by
  go_enter Try.func17, Try.ntmps17
  go_wp2_with (go_at_call 32; go_in)
  refine wp_loop_rounds 1 ?_
  rw [rounds_succ]
  go_wp2_with (first | (go_at_call 19; refine (cLoad_any _ _ _ h0).mono ?_; rintro e w' ⟨rfl, rfl⟩) | (go_at_call 26; refine (vLocked_any _ _).mono ?_; rintro e w' ⟨rfl, rfl⟩) | (go_at_call 27; refine (vDead_any _ _).mono ?_; rintro e w' ⟨rfl, rfl⟩) | (go_at_call 24; refine (vKill_no _ _ h').mono ?_; rintro e w' ⟨rfl, rfl⟩) | (go_at_call 12; refine (cCas_hit _ _ _ _ h0 f0).mono ?_; rintro e w' ⟨rfl, rfl⟩))
  go_ret
  exact ⟨rfl, rfl⟩
theorem cGive_no (p : Addr) (x : Int) (w : World) (h0 : w.cell? p = some (.int .u64 x)) (h : (lkd x && !ded x) = false) :
    Calls Try.prog 15 #[.pointer (some p)] w fun e w' => e = .returned (.bool false) ∧ w = w' := by
  cases h1 : lkd x <;> cases h2 : ded x
  case true.false => rw [h1, h2] at h; cases h
  all_goals
    clear h
    go_enter Try.func15, Try.ntmps15
    go_wp2_with (go_at_call 32; go_in)
    refine wp_loop_rounds 1 ?_
    rw [rounds_succ]
    go_wp2_with (first | (go_at_call 19; refine (cLoad_any _ _ _ h0).mono ?_; rintro e w' ⟨rfl, rfl⟩) | (go_at_call 26; refine (vLocked_any _ _).mono ?_; rintro e w' ⟨rfl, rfl⟩) | (go_at_call 27; refine (vDead_any _ _).mono ?_; rintro e w' ⟨rfl, rfl⟩))
    go_ret
    exact ⟨rfl, rfl⟩
theorem cEnd_no (p : Addr) (x : Int) (w : World) (h0 : w.cell? p = some (.int .u64 x)) (h : (lkd x && !ded x) = false) :
    Calls Try.prog 17 #[.pointer (some p)] w fun e w' => e = .returned (.bool false) ∧ w = w' := by
  cases h1 : lkd x <;> cases h2 : ded x
  case true.false => rw [h1, h2] at h; cases h
  all_goals
    clear h
    go_enter Try.func17, Try.ntmps17
    go_wp2_with (go_at_call 32; go_in)
    refine wp_loop_rounds 1 ?_
    rw [rounds_succ]
    go_wp2_with (first | (go_at_call 19; refine (cLoad_any _ _ _ h0).mono ?_; rintro e w' ⟨rfl, rfl⟩) | (go_at_call 26; refine (vLocked_any _ _).mono ?_; rintro e w' ⟨rfl, rfl⟩) | (go_at_call 27; refine (vDead_any _ _).mono ?_; rintro e w' ⟨rfl, rfl⟩))
    go_ret
    exact ⟨rfl, rfl⟩
theorem cGive_nil (w : World) :
    Calls Try.prog 15 #[.pointer none] w fun e w' => e = .returned (.bool false) ∧ w = w' := by
  have h1 : lkd 0 = false := rfl
  go_enter Try.func15, Try.ntmps15
  go_wp2_with (go_at_call 32; go_in)
  refine wp_loop_rounds 1 ?_
  rw [rounds_succ]
  go_wp2_with (first | (go_at_call 19; refine (cLoad_nil _).mono ?_; rintro e w' ⟨rfl, rfl⟩) | (go_at_call 26; refine (vLocked_any _ _).mono ?_; rintro e w' ⟨rfl, rfl⟩) | (go_at_call 27; refine (vDead_any _ _).mono ?_; rintro e w' ⟨rfl, rfl⟩))
  go_ret
  exact ⟨rfl, rfl⟩
theorem cEnd_nil (w : World) :
    Calls Try.prog 17 #[.pointer none] w fun e w' => e = .returned (.bool false) ∧ w = w' := by
  have h1 : lkd 0 = false := rfl
  go_enter Try.func17, Try.ntmps17
  go_wp2_with (go_at_call 32; go_in)
  refine wp_loop_rounds 1 ?_
  rw [rounds_succ]
  go_wp2_with (first | (go_at_call 19; refine (cLoad_nil _).mono ?_; rintro e w' ⟨rfl, rfl⟩) | (go_at_call 26; refine (vLocked_any _ _).mono ?_; rintro e w' ⟨rfl, rfl⟩) | (go_at_call 27; refine (vDead_any _ _).mono ?_; rintro e w' ⟨rfl, rfl⟩))
  go_ret
  exact ⟨rfl, rfl⟩
theorem awake_any (w : World) : Calls Try.prog 9 #[] w fun e w' => e = .returned (.bool true) ∧ w.alloc (.cells #[.int .u64 4] 32) = w' := by
  have o0 : opn 0 = true := rfl
  have l0 : lck 0 = 1 := rfl
  have o1 : opn 1 = false := rfl
  have k1 : lkd 1 = true := rfl
  have d1 : ded 1 = false := rfl
  have u1 : unl 1 = 4 := rfl
  go_enter Try.func9, Try.ntmps9
  go_wp2_with fail
  refine (cTake_yes _ 0 _ ?_ ?_ o0).mono ?_
  · go_simp
  · go_simp
  rintro e w' ⟨rfl, rfl⟩
  go_wp2_with fail
  refine (cTake_no _ 1 _ ?_ o1).mono ?_
  · go_simp
  rintro e w' ⟨rfl, rfl⟩
  go_wp2_with fail
  refine (cLoad_any _ 1 _ ?_).mono ?_
  · go_simp
  rintro e w' ⟨rfl, rfl⟩
  go_wp2_with fail
  refine (cGive_yes _ 1 _ ?_ ?_ k1 d1).mono ?_
  · go_simp
  · go_simp
  rintro e w' ⟨rfl, rfl⟩
  go_wp2_with fail
  refine (cLoad_any _ 4 _ ?_).mono ?_
  · go_simp
  rintro e w' ⟨rfl, rfl⟩
  go_wp2_with fail
  go_ret
  exact ⟨rfl, rfl⟩
/-! ### The reference's words -/
theorem rOf_any (a : Int) (w : World) : Calls Try.prog 10 #[.int .u64 a] w fun e w' => e = .returned (.agg #[.int .u64 (rv a), .bool (rl a), .bool (rd a)]) ∧ Below w.heap.size w w' := by
  go_enter Try.func10, Try.ntmps10
  go_wp2
  exact bodyPost_ret (v := .agg #[.int .u64 (rv a), .bool (rl a), .bool (rd a)]) (by simp [results, Try.results10, go_sem, rv, rl, rd]) rfl ⟨rfl, (Below.refl _ _).alloc (Nat.le_refl _) _⟩
theorem rOpen_any (v : Int) (l d : Bool) (w : World) : Calls Try.prog 28 #[.agg #[.int .u64 v, .bool l, .bool d]] w fun e w' => e = .returned (.bool (!l && !d)) ∧ Below w.heap.size w w' := by
  cases l
  all_goals
    go_enter Try.func28, Try.ntmps28
    go_wp2
    go_ret
    exact ⟨rfl, (Below.refl _ _).alloc (Nat.le_refl _) _⟩
theorem rPut_any (v : Int) (l d : Bool) (w : World) : Calls Try.prog 31 #[.agg #[.int .u64 v, .bool l, .bool d]] w fun e w' => e = .returned (.int .u64 (rput v l d)) ∧ Below w.heap.size w w' := by
  cases l <;> cases d
  all_goals
    go_enter Try.func31, Try.ntmps31
    go_wp2
    go_ret
    exact ⟨rfl, (Below.refl _ _).alloc (Nat.le_refl _) _⟩
theorem rLock_yes (a : Int) (w : World) (hl : rl a = false) (hd : rd a = false) : Calls Try.prog 13 #[.int .u64 a] w fun e w' => e = .returned (.tuple #[.int .u64 (rput (rv a) true false), .bool true]) ∧ Below w.heap.size w w' := by
  go_enter Try.func13, Try.ntmps13
  go_wp2_with fail
  refine (rOf_any _ _).mono ?_
  rintro e w1 ⟨rfl, hb1⟩
  go_wp2_with fail
  refine (rOpen_any _ _ _ _).mono ?_
  rintro e w2 ⟨rfl, hb2⟩
  obtain ⟨hc, hf⟩ := bcell hb2
  have hs1 := hb1.size
  have hs2 := hb2.size
  simp at hs2
  go_wp2_with fail
  refine (rPut_any _ _ _ _).mono ?_
  rintro e w3 ⟨rfl, hb3⟩
  go_wp2_with fail
  go_ret2
  refine ⟨rfl, ?_⟩
  exact (((hb1.alloc (by omega) _).trans (hb2.mono (by simp; omega))).setCell (by simp; omega) _).trans (hb3.mono (by simp; omega))
theorem rLock_no (a : Int) (w : World) (h : (!rl a && !rd a) = false) : Calls Try.prog 13 #[.int .u64 a] w fun e w' => e = .returned (.tuple #[.int .u64 a, .bool false]) ∧ Below w.heap.size w w' := by
  cases hl : rl a <;> cases hd : rd a
  case false.false => rw [hl, hd] at h; cases h
  all_goals
    clear h
    go_enter Try.func13, Try.ntmps13
    go_wp2_with fail
    refine (rOf_any _ _).mono ?_
    rintro e w1 ⟨rfl, hb1⟩
    go_wp2_with fail
    refine (rOpen_any _ _ _ _).mono ?_
    rintro e w2 ⟨rfl, hb2⟩
    obtain ⟨hc, hf⟩ := bcell hb2
    have hs1 := hb1.size
    have hs2 := hb2.size
    simp at hs2
    go_wp2_with fail
    go_ret2
    refine ⟨rfl, ?_⟩
    exact (hb1.alloc (by omega) _).trans (hb2.mono (by simp; omega))
theorem rUnlock_yes (a : Int) (w : World) (hl : rl a = true) : Calls Try.prog 16 #[.int .u64 a] w fun e w' => e = .returned (.int .u64 (rput (IntKind.u64.wrap (rv a + 1)) false (rd a))) ∧ Below w.heap.size w w' := by
  go_enter Try.func16, Try.ntmps16
  go_wp2_with fail
  refine (rOf_any _ _).mono ?_
  rintro e w1 ⟨rfl, hb1⟩
  have hs1 := hb1.size
  go_wp2_with fail
  refine (rPut_any _ _ _ _).mono ?_
  rintro e w3 ⟨rfl, hb3⟩
  go_wp2_with fail
  go_ret
  refine ⟨rfl, ?_⟩
  exact (hb1.alloc (by omega) _).trans (hb3.mono (by simp; omega))
theorem rUnlock_no (a : Int) (w : World) (hl : rl a = false) : Calls Try.prog 16 #[.int .u64 a] w fun e w' => e = .returned (.int .u64 (rput (rv a) false (rd a))) ∧ Below w.heap.size w w' := by
  go_enter Try.func16, Try.ntmps16
  go_wp2_with fail
  refine (rOf_any _ _).mono ?_
  rintro e w1 ⟨rfl, hb1⟩
  have hs1 := hb1.size
  go_wp2_with fail
  refine (rPut_any _ _ _ _).mono ?_
  rintro e w3 ⟨rfl, hb3⟩
  go_wp2_with fail
  go_ret
  refine ⟨rfl, ?_⟩
  exact (hb1.alloc (by omega) _).trans (hb3.mono (by simp; omega))
theorem rKill_yes (a : Int) (w : World) (hd : rd a = true) : Calls Try.prog 18 #[.int .u64 a] w fun e w' => e = .returned (.int .u64 (rput (rv a) false true)) ∧ Below w.heap.size w w' := by
  go_enter Try.func18, Try.ntmps18
  go_wp2_with fail
  refine (rOf_any _ _).mono ?_
  rintro e w1 ⟨rfl, hb1⟩
  have hs1 := hb1.size
  go_wp2_with fail
  refine (rPut_any _ _ _ _).mono ?_
  rintro e w3 ⟨rfl, hb3⟩
  go_wp2_with fail
  go_ret
  refine ⟨rfl, ?_⟩
  exact (hb1.alloc (by omega) _).trans (hb3.mono (by simp; omega))
theorem rKill_no (a : Int) (w : World) (hd : rd a = false) : Calls Try.prog 18 #[.int .u64 a] w fun e w' => e = .returned (.int .u64 (rput (IntKind.u64.wrap (rv a + 1)) false true)) ∧ Below w.heap.size w w' := by
  go_enter Try.func18, Try.ntmps18
  go_wp2_with fail
  refine (rOf_any _ _).mono ?_
  rintro e w1 ⟨rfl, hb1⟩
  have hs1 := hb1.size
  go_wp2_with fail
  refine (rPut_any _ _ _ _).mono ?_
  rintro e w3 ⟨rfl, hb3⟩
  go_wp2_with fail
  go_ret
  refine ⟨rfl, ?_⟩
  exact (hb1.alloc (by omega) _).trans (hb3.mono (by simp; omega))
/-! ### One contract a function, for words of whatever kind -/
def xl (a : Int) : Int := bif opn a then lck a else a
def yl (a : Int) : Int := bif !rl a && !rd a then rput (rv a) true false else a
def xu (a : Int) : Int := bif lkd a then unl a else a
def yu (a : Int) : Int := rput (bif rl a then IntKind.u64.wrap (rv a + 1) else rv a) false (rd a)
def xk (a : Int) : Int := bif ded a then kil0 a else kil1 a
def yk (a : Int) : Int := rput (bif rd a then rv a else IntKind.u64.wrap (rv a + 1)) false true
def xb (a : Int) : Int := bif opn a then a else 0
theorem vBegin_all (a : Int) (w : World) : Calls Try.prog 20 #[.int .u64 a] w fun e w' => e = .returned (.tuple #[.int .u64 (xb a), .bool (opn a)]) ∧ w = w' := by
  unfold xb
  cases h : opn a
  · exact vBegin_no a w h
  · exact vBegin_yes a w h
theorem vLock_all (a : Int) (w : World) : Calls Try.prog 21 #[.int .u64 a] w fun e w' => e = .returned (.tuple #[.int .u64 (xl a), .bool (opn a)]) ∧ w = w' := by
  unfold xl
  cases h : opn a
  · exact vLock_no a w h
  · exact vLock_yes a w h
theorem vUnlock_all (a : Int) (w : World) : Calls Try.prog 23 #[.int .u64 a] w fun e w' => e = .returned (.int .u64 (xu a)) ∧ w = w' := by
  unfold xu
  cases h : lkd a
  · exact vUnlock_no a w h
  · exact vUnlock_yes a w h
theorem vKill_all (a : Int) (w : World) : Calls Try.prog 24 #[.int .u64 a] w fun e w' => e = .returned (.int .u64 (xk a)) ∧ w = w' := by
  unfold xk
  cases h : ded a
  · exact vKill_no a w h
  · exact vKill_yes a w h
theorem rLock_all (a : Int) (w : World) : Calls Try.prog 13 #[.int .u64 a] w fun e w' => e = .returned (.tuple #[.int .u64 (yl a), .bool (!rl a && !rd a)]) ∧ Below w.heap.size w w' := by
  unfold yl
  cases h : (!rl a && !rd a)
  · exact rLock_no a w h
  · exact rLock_yes a w (by simpa using (Bool.and_eq_true_iff.1 h).1) (by simpa using (Bool.and_eq_true_iff.1 h).2)
theorem rUnlock_all (a : Int) (w : World) : Calls Try.prog 16 #[.int .u64 a] w fun e w' => e = .returned (.int .u64 (yu a)) ∧ Below w.heap.size w w' := by
  unfold yu
  cases h : rl a
  · exact rUnlock_no a w h
  · exact rUnlock_yes a w h
theorem rKill_all (a : Int) (w : World) : Calls Try.prog 18 #[.int .u64 a] w fun e w' => e = .returned (.int .u64 (yk a)) ∧ Below w.heap.size w w' := by
  unfold yk
  cases h : rd a
  · exact rKill_no a w h
  · exact rKill_yes a w h
theorem wrap_nat1 (v : Nat) (h : v < top) : IntKind.u64.wrap ((v : Int) + 1) = ((v + 1 : Nat) : Int) := by
  unfold top at h
  rw [IntKind.wrap_u64]; omega
theorem xl_mk (v : Nat) (d l : Bool) (h : v < top) : xl (mk v d l) = bif !d && !l then mk v false true else mk v d l := by
  unfold xl
  rw [opn_mk d l h]
  cases d <;> cases l <;> simp [lck_mk h]
theorem yl_mk (v : Nat) (d l : Bool) (h : v < top) : yl (mk v d l) = bif !d && !l then mk v false true else mk v d l := by
  unfold yl
  rw [rl_mk, rd_mk d l h, rv_mk d l h]
  cases d <;> cases l <;> simp [rput_mk, mod_top h]
theorem xu_mk (v : Nat) (d l : Bool) (h : v < top) : xu (mk v d l) = bif l then mk (nx v) d false else mk v d l := by
  unfold xu
  rw [lkd_mk d l h]
  cases l <;> simp [unl_mk]
theorem yu_mk (v : Nat) (d l : Bool) (h : v < top) : yu (mk v d l) = bif l then mk (nx v) d false else mk v d l := by
  unfold yu
  rw [rl_mk, rd_mk d l h, rv_mk d l h, wrap_nat1 v h]
  cases l <;> simp [rput_mk, mod_top h, nx]
  rw [show ((v : Int) + 1) = ((v + 1 : Nat) : Int) by omega, rput_mk]
theorem xk_mk (v : Nat) (d l : Bool) (h : v < top) : xk (mk v d l) = bif d then mk v true false else mk (nx v) true false := by
  unfold xk
  rw [ded_mk d l h]
  cases d <;> simp [kil0_mk _ h, kil1_mk _ h]
theorem yk_mk (v : Nat) (d l : Bool) (h : v < top) : yk (mk v d l) = bif d then mk v true false else mk (nx v) true false := by
  unfold yk
  rw [rd_mk d l h, rv_mk d l h, wrap_nat1 v h]
  cases d <;> simp [rput_mk, mod_top h, nx]
  rw [show ((v : Int) + 1) = ((v + 1 : Nat) : Int) by omega, rput_mk]
theorem xb_mk (v : Nat) (d l : Bool) (h : v < top) : xb (mk v d l) = bif !d && !l then mk v d l else 0 := by
  unfold xb
  rw [opn_mk d l h]
/-! ### The cells, for words of whatever kind -/
theorem cTake_all (p : Addr) (x : Int) (w : World) (h0 : w.cell? p = some (.int .u64 x)) (f0 : w.frozen? p = false) :
    Calls Try.prog 14 #[.pointer (some p)] w fun e w' => e = .returned (.tuple #[.int .u64 x, .bool (opn x)]) ∧ (bif opn x then w.setCell p (.int .u64 (lck x)) else w) = w' := by
  cases h : opn x
  · exact cTake_no p x w h0 h
  · exact cTake_yes p x w h0 f0 h
end Go.Proofs.Ytpcniieppbafaaa
