/- The walk of the law VlockAlone: for any unsigned word and any number of tries it returns true. -/
import Derived.Test.YtpcniieppbafaaaVlockWords
import Derived.OpenShut
namespace Go.Proofs.Ytpcniieppbafaaa
open Go.RowKit
open Vl
set_option maxHeartbeats 1000000 in
theorem alone_shut (v : Nat) (d l : Bool) (hv : v < top) (h : (!d && !l) = false) (b : Int) (w : World) :
    Calls Try.prog 7 #[.int .u64 (mk v d l), .int .u8 b] w fun e w' => e = .returned (.bool true) ∧ Below w.heap.size w w' := by
  have f1 := opn_mk d l hv
  rw [h] at f1
  generalize mk v d l = a at *
  clear h hv
  go_enter Try.func7, Try.ntmps7
  go_wp2_with (first | (go_at_call 9; refine (awake_any _).mono ?_; rintro e w' ⟨rfl, rfl⟩) | (go_at_call 11; refine (cStore_any _ 0 _ _ ?_ ?_).mono ?_; (focus (first | assumption | go_simp)); (focus (first | assumption | go_simp)); rintro e w' ⟨rfl, rfl⟩) | (go_at_call 20; refine (vBegin_all _ _).mono ?_; rintro e w' ⟨rfl, rfl⟩) | (go_at_call 14; refine (cTake_no _ a _ ?_ f1).mono ?_; (focus (first | assumption | go_simp)); rintro e w' ⟨rfl, rfl⟩) | (go_at_call 19; refine (cLoad_any _ a _ ?_).mono ?_; (focus (first | assumption | go_simp)); rintro e w' ⟨rfl, rfl⟩))
  go_ret
  refine ⟨rfl, ?_⟩
  exact ((Below.refl _ _).alloc (Nat.le_refl _) _).alloc (by simp) _
set_option maxHeartbeats 1000000 in
theorem alone_open (v : Nat) (hv : v < top) (b : Int) (hb : 0 ≤ b ∧ b ≤ 255) (w : World) :
    Calls Try.prog 7 #[.int .u64 (mk v false false), .int .u8 b] w fun e w' => e = .returned (.bool true) ∧ Below w.heap.size w w' := by
  have f1 := opn_mk false false hv
  have f2 : opn (mk v false true) = false := opn_mk false true hv
  have f3 := xb_mk v false false hv
  have f4 := lck_mk hv
  have f5 : lkd (mk v false true) = true := lkd_mk false true hv
  have f6 : ded (mk v false true) = false := ded_mk false true hv
  have f7 : unl (mk v false true) = mk (nx v) false false := unl_mk false
  have f8 : (lkd (mk (nx v) false false) && !ded (mk (nx v) false false)) = false := by rw [lkd_mk _ _ (nx_lt v)]; rfl
  have f9 : opn (mk (nx v) false false) = true := opn_mk _ _ (nx_lt v)
  have f10 : lkd (mk (nx v) false false) = false := lkd_mk _ _ (nx_lt v)
  have f11 : ded (mk (nx v) false false) = false := ded_mk _ _ (nx_lt v)
  have f12 : (mk (nx v) false false == mk v false false) = false := by
    rw [mk_beq]; unfold nx; unfold top at *; simp; omega
  have f12' : (mk (nx v) false false != mk v false false) = true := by unfold bne; rw [f12]; rfl
  have f13 := xb_mk (nx v) false false (nx_lt v)
  simp at f1 f3 f13
  generalize mk v false false = a at *
  generalize mk v false true = b1 at *
  generalize mk (nx v) false false = c at *
  obtain ⟨n, hn, hn'⟩ : ∃ n : Nat, b.tmod 100 = n ∧ n < 100 := ⟨(b % 100).toNat, by rw [Int.tmod_eq_emod_of_nonneg hb.1]; omega, by omega⟩
  go_enter Try.func7, Try.ntmps7
  go_wp2_with (first | (go_at_call 9; refine (awake_any _).mono ?_; rintro e w' ⟨rfl, rfl⟩) | (go_at_call 11; refine (cStore_any _ 0 _ _ ?_ ?_).mono ?_; (focus (first | assumption | go_simp)); (focus (first | assumption | go_simp)); rintro e w' ⟨rfl, rfl⟩) | (go_at_call 20; refine (vBegin_all _ _).mono ?_; rintro e w' ⟨rfl, rfl⟩) | (go_at_call 14; refine (cTake_yes _ a _ ?_ ?_ f1).mono ?_; (focus (first | assumption | go_simp)); (focus (first | assumption | go_simp)); rintro e w' ⟨rfl, rfl⟩) | (go_at_call 19; refine (cLoad_any _ b1 _ ?_).mono ?_; (focus (first | assumption | go_simp)); rintro e w' ⟨rfl, rfl⟩))
  go_loop [11] (fun i => ∃ k : Nat, k ≤ n ∧ i = .int .i64 k) (fun i => n - (intOf i).toNat)
  case atStart => exact ⟨0, Nat.zero_le _, rfl⟩
  case round =>
    obtain ⟨k, hk, rfl⟩ := hrel
    by_cases hlt : k < n
    · go_wp2_with (first | (go_at_call 14; refine (cTake_no _ b1 _ ?_ f2).mono ?_; (focus (first | assumption | go_simp)); rintro e w' ⟨rfl, rfl⟩) | (go_at_call 20; refine (vBegin_no _ _ f2).mono ?_; rintro e w' ⟨rfl, rfl⟩) | (go_at_call 19; refine (cLoad_any _ b1 _ ?_).mono ?_; (focus (first | assumption | go_simp)); rintro e w' ⟨rfl, rfl⟩) | (go_at_call 22; refine (vValid_any _ _ _).mono ?_; rintro e w' ⟨rfl, rfl⟩))
      go_round
      case rel => exact ⟨k + 1, by omega, by go_num⟩
      case measure => simp [intOf]; omega
    · go_wp2_with (first | (go_at_call 15; refine (cGive_yes _ b1 _ ?_ ?_ f5 f6).mono ?_; (focus (first | assumption | go_simp)); (focus (first | assumption | go_simp)); rintro e w' ⟨rfl, rfl⟩) | (go_at_call 15; refine (cGive_no _ c _ ?_ f8).mono ?_; (focus (first | assumption | go_simp)); rintro e w' ⟨rfl, rfl⟩) | (go_at_call 17; refine (cEnd_no _ c _ ?_ f8).mono ?_; (focus (first | assumption | go_simp)); rintro e w' ⟨rfl, rfl⟩) | (go_at_call 19; refine (cLoad_any _ c _ ?_).mono ?_; (focus (first | assumption | go_simp)); rintro e w' ⟨rfl, rfl⟩) | (go_at_call 20; refine (vBegin_all _ _).mono ?_; rintro e w' ⟨rfl, rfl⟩) | (go_at_call 26; refine (vLocked_any _ _).mono ?_; rintro e w' ⟨rfl, rfl⟩) | (go_at_call 27; refine (vDead_any _ _).mono ?_; rintro e w' ⟨rfl, rfl⟩) | (go_at_call 22; refine (vValid_any _ _ _).mono ?_; rintro e w' ⟨rfl, rfl⟩))
      go_ret
      refine ⟨rfl, ?_⟩
      exact ((Below.refl _ _).alloc (Nat.le_refl _) _).alloc (by simp) _
theorem alone_walk (a b : Int) (w : World) (ha : (Lit.int .u64 a).wf = true) (hb : (Lit.int .u8 b).wf = true) :
    Calls Try.prog 7 #[.int .u64 a, .int .u8 b] w fun e w' => e = .returned (.bool true) ∧ Below w.heap.size w w' := by
  obtain ⟨v, d, l, hv, rfl⟩ := wd_of a (wf_u64 ha).1 (wf_u64 ha).2
  cases d <;> cases l
  · exact alone_open v hv b (bounds_u8 hb) w
  · exact alone_shut v _ _ hv rfl b w
  · exact alone_shut v _ _ hv rfl b w
  · exact alone_shut v _ _ hv rfl b w
end Go.Proofs.Ytpcniieppbafaaa
