/- The walk of the law VlockKnown: the chapter's examples; it returns true. -/
import Derived.Test.YtpcniieppbafaaaVlockWords
namespace Go.Proofs.Ytpcniieppbafaaa
open Go.RowKit
open Vl
set_option maxHeartbeats 1000000 in
theorem known_walk (w : World) : Calls Try.prog 4 #[] w fun e w' => e = .returned (.bool true) ∧ Below w.heap.size w w' := by
  have b8 : xb 8 = 8 := rfl
  have o8 : opn 8 = true := rfl
  have o9 : opn 9 = false := rfl
  have o10 : opn 10 = false := rfl
  have o12 : opn 12 = true := rfl
  have l8 : xl 8 = 9 := rfl
  have l9 : xl 9 = 9 := rfl
  have u9 : xu 9 = 12 := rfl
  have u8 : xu 8 = 8 := rfl
  have k9 : xk 9 = 14 := rfl
  have k8 : xk 8 = 14 := rfl
  have o0 : opn 0 = true := rfl
  have lc0 : lck 0 = 1 := rfl
  have o1 : opn 1 = false := rfl
  have k1 : lkd 1 = true := rfl
  have d1 : ded 1 = false := rfl
  have un1 : unl 1 = 4 := rfl
  have o4 : opn 4 = true := rfl
  have lc4 : lck 4 = 5 := rfl
  have k5 : lkd 5 = true := rfl
  have d5 : ded 5 = false := rfl
  have ki5 : kil1 5 = 10 := rfl
  have n10 : (lkd 10 && !ded 10) = false := rfl
  go_enter Try.func4, Try.ntmps4
  go_wp2_with (first | (go_at_call 20; refine (vBegin_all _ _).mono ?_; rintro e w' ⟨rfl, rfl⟩) | (go_at_call 21; refine (vLock_all _ _).mono ?_; rintro e w' ⟨rfl, rfl⟩) | (go_at_call 22; refine (vValid_any _ _ _).mono ?_; rintro e w' ⟨rfl, rfl⟩) | (go_at_call 23; refine (vUnlock_all _ _).mono ?_; rintro e w' ⟨rfl, rfl⟩) | (go_at_call 24; refine (vKill_all _ _).mono ?_; rintro e w' ⟨rfl, rfl⟩))
  refine (cTake_yes _ 0 _ ?_ ?_ o0).mono ?_
  · go_simp
  · go_simp
  rintro e w' ⟨rfl, rfl⟩
  go_wp2_with fail
  refine (cTake_no _ 1 _ ?_ o1).mono ?_
  · go_simp
  rintro e w' ⟨rfl, rfl⟩
  go_wp2_with fail
  refine (cGive_yes _ 1 _ ?_ ?_ k1 d1).mono ?_
  · go_simp
  · go_simp
  rintro e w' ⟨rfl, rfl⟩
  go_wp2_with fail
  refine (cLoad_any _ 4 _ ?_).mono ?_
  · go_simp
  rintro e w' ⟨rfl, rfl⟩
  go_wp2_with fail
  refine (cTake_yes _ 4 _ ?_ ?_ o4).mono ?_
  · go_simp
  · go_simp
  rintro e w' ⟨rfl, rfl⟩
  go_wp2_with fail
  refine (awake_any _).mono ?_
  rintro e w' ⟨rfl, rfl⟩
  go_wp2_with fail
  refine (cEnd_yes _ 5 _ ?_ ?_ k5 d5).mono ?_
  · go_simp
  · go_simp
  rintro e w' ⟨rfl, rfl⟩
  go_wp2_with fail
  refine (cLoad_any _ 10 _ ?_).mono ?_
  · go_simp
  rintro e w' ⟨rfl, rfl⟩
  go_wp2_with fail
  refine (cGive_no _ 10 _ ?_ n10).mono ?_
  · go_simp
  rintro e w' ⟨rfl, rfl⟩
  go_wp2_with fail
  refine (cEnd_no _ 10 _ ?_ n10).mono ?_
  · go_simp
  rintro e w' ⟨rfl, rfl⟩
  go_wp2_with fail
  go_ret
  refine ⟨rfl, ?_⟩
  exact ((Below.refl _ _).alloc (Nat.le_refl _) _).alloc (by simp) _
end Go.Proofs.Ytpcniieppbafaaa
