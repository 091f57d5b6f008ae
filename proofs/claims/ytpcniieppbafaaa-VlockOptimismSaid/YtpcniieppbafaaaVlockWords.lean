/- The walk of the law VlockWords: for any two unsigned words it returns true. -/
import Derived.Test.YtpcniieppbafaaaVlockTwo
import Derived.Test.YtpcniieppbafaaaLib
import Derived.BigQuiet
namespace Go.Proofs.Ytpcniieppbafaaa
open Go.RowKit
open Vl
theorem awake_b (w : World) : Calls Try.prog 9 #[] w fun e w' => e = .returned (.bool true) ∧ Below w.heap.size w w' :=
  (awake_any w).mono fun _ _ ⟨he, hw⟩ => ⟨he, by rw [← hw]; exact (Below.refl _ _).alloc (Nat.le_refl _) _⟩
set_option maxHeartbeats 16000000 in
theorem words_mk (v : Nat) (d l : Bool) (hv : v < top) (b : Int) (w : World) :
    Calls Try.prog 5 #[.int .u64 (mk v d l), .int .u64 b] w fun e w' => e = .returned (.bool true) ∧ Below w.heap.size w w' := by
  have f1 := opn_mk d l hv
  have f2 := lkd_mk d l hv
  have f3 := ded_mk d l hv
  have f4 := ver_mk d l hv
  have f5 := rv_mk d l hv
  have f6 := rl_mk (v := v) d l
  have f7 := rd_mk d l hv
  have f8 : xb (mk v d l) = bif !d && !l then mk v d l else 0 := xb_mk v d l hv
  have f9 : xl (mk v d l) = yl (mk v d l) := (xl_mk v d l hv).trans (yl_mk v d l hv).symm
  have f10 : xu (mk v d l) = yu (mk v d l) := (xu_mk v d l hv).trans (yu_mk v d l hv).symm
  have f11 : xk (mk v d l) = yk (mk v d l) := (xk_mk v d l hv).trans (yk_mk v d l hv).symm
  generalize mk v d l = a at *
  clear hv
  cases d <;> cases l <;> cases hab : a == b
  all_goals
    simp only [Bool.not_true, Bool.not_false, Bool.and_true, Bool.and_false, cond_true, cond_false] at f1 f8
    go_enter Try.func5, Try.ntmps5
    go_wp2_with fail
    refine (rOf_any _ _).mono ?_
    rintro e w1 ⟨rfl, hb1⟩
    go_wp2_with fail
    refine (vBegin_all _ _).mono ?_
    rintro e w' ⟨rfl, rfl⟩
    go_wp2_with fail
    refine (vLock_all _ _).mono ?_
    rintro e w' ⟨rfl, rfl⟩
    go_wp2_with fail
    refine (rLock_all _ _).mono ?_
    rintro e w2 ⟨rfl, hb2⟩
    go_wp2_with fail
    obtain ⟨hc, _⟩ := bcell hb2
    have hs1 := hb1.size
    have hs2 := hb2.size
    simp at hs2
    have c0 : w2.cell? ⟨w1.heap.size, 0, none⟩ = some (.int .u64 v) := by rw [hc _ _ (by simp)]; go_simp
    have c1 : w2.cell? ⟨w1.heap.size, 1, none⟩ = some (.bool (rl a)) := by rw [hc _ _ (by simp), f6]; go_simp
    have c2 : w2.cell? ⟨w1.heap.size, 2, none⟩ = some (.bool (rd a)) := by rw [hc _ _ (by simp), f7]; go_simp
    rw [f6] at c1
    rw [f7] at c2
    have hB2 : Below w.heap.size w w2 := (hb1.alloc (by omega) _).trans (hb2.mono (by simp; omega))
    clear hc hb2 hb1 hs1 hs2
    have k0 := cell_regrown c0
    have k1 := cell_regrown c1
    have k2 := cell_regrown c2
    have hsz := hB2.size
    clear c0 c1 c2
    have cV : ∀ d os, _ := fun d os => rg_same (vVersion_any a (Sort.grow (redrawn w2 d) os))
    have cL : ∀ d os, _ := fun d os => rg_same (vLocked_any a (Sort.grow (redrawn w2 d) os))
    have cD : ∀ d os, _ := fun d os => rg_same (vDead_any a (Sort.grow (redrawn w2 d) os))
    have cO : ∀ d os x y, _ := fun d os x y => rg_below (rOpen_any v x y (Sort.grow (redrawn w2 d) os))
    rw [f2] at cL
    rw [f3] at cD
    rw [f4] at cV
    refine wp_region_quiet_below (by kernel_rfl) (by kernel_rfl) ?_
    repeat (first | go_big_quiet_step (first | exact cV _ _ | exact cL _ _ | exact cD _ _ | exact cO _ _ _ _) | quiet_step (first | exact cV _ _ | exact cL _ _ | exact cD _ _ | exact cO _ _ _ _))
    refine wpQuiet_nil ?_
    intro w3 hw3
    obtain ⟨⟨dq, osq⟩, hw4⟩ := hw3
    have c0 := k0 dq osq
    have c1 := k1 dq osq
    have c2 := k2 dq osq
    have hB3 := hB2.trans ((below_regrown w2 dq osq).mono hsz)
    rw [← hw4] at c0 c1 c2 hB3
    clear k0 k1 k2 cV cL cD cO hw4 hB2 hsz
    go_wp2_with fail
    have k0 := cell_regrown c0
    have k1 := cell_regrown c1
    have k2 := cell_regrown c2
    have hsz := hB3.size
    clear c0 c1 c2
    have cA : ∀ d os, _ := fun d os => rg_below (awake_b (Sort.grow (redrawn w3 d) os))
    have cF : ∀ d os, _ := fun d os => rg_same (vValid_any a b (Sort.grow (redrawn w3 d) os))
    have cO : ∀ d os x y, _ := fun d os x y => rg_below (rOpen_any v x y (Sort.grow (redrawn w3 d) os))
    have cU : ∀ d os, _ := fun d os => rg_same (vUnlock_all a (Sort.grow (redrawn w3 d) os))
    have cU' : ∀ d os, _ := fun d os => rg_below (rUnlock_all a (Sort.grow (redrawn w3 d) os))
    have cK : ∀ d os, _ := fun d os => rg_same (vKill_all a (Sort.grow (redrawn w3 d) os))
    have cK' : ∀ d os, _ := fun d os => rg_below (rKill_all a (Sort.grow (redrawn w3 d) os))
    rw [f1, hab] at cF
    rw [f10] at cU
    rw [f11] at cK
    refine wp_region_quiet_below (by kernel_rfl) (by kernel_rfl) ?_
    repeat (first | go_big_quiet_step (first | exact cA _ _ | exact cF _ _ | exact cO _ _ _ _ | exact cU _ _ | exact cU' _ _ | exact cK _ _ | exact cK' _ _) | quiet_step (first | exact cA _ _ | exact cF _ _ | exact cO _ _ _ _ | exact cU _ _ | exact cU' _ _ | exact cK _ _ | exact cK' _ _))
    refine wpQuiet_nil ?_
    intro w5 hw5
    obtain ⟨⟨dq', osq'⟩, hw6⟩ := hw5
    have hB5 := hB3.trans ((below_regrown w3 dq' osq').mono hsz)
    rw [← hw6] at hB5
    clear k0 k1 k2 cA cF cO cU cU' cK cK' hw6 hB3 hsz
    go_wp2_with fail
    go_ret
    exact ⟨rfl, hB5⟩
theorem wf_u64 {a : Int} (h : (Lit.int .u64 a).wf = true) : 0 ≤ a ∧ a < 18446744073709551616 := by
  simp [Lit.wf, IntKind.min, IntKind.max, IntKind.bits, IntKind.signed] at h
  omega
theorem wd_wf {a : Int} (h : (Lit.int .u64 a).wf = true) : Wd a := wd_of a (wf_u64 h).1 (wf_u64 h).2
theorem words_walk (a b : Int) (w : World) (ha : (Lit.int .u64 a).wf = true) (_hb : (Lit.int .u64 b).wf = true) :
    Calls Try.prog 5 #[.int .u64 a, .int .u64 b] w fun e w' => e = .returned (.bool true) ∧ Below w.heap.size w w' := by
  obtain ⟨v, d, l, hv, rfl⟩ := wd_of a (wf_u64 ha).1 (wf_u64 ha).2
  exact words_mk v d l hv b w
end Go.Proofs.Ytpcniieppbafaaa
