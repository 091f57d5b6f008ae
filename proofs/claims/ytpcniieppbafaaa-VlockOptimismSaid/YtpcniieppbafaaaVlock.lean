/- The contracts of package vlock: what each of its functions computes, by its operations as the model writes them. Conditions: a cell's address holds an unsigned number and is not frozen. -/
import Derived.Test.YtpcniieppbafaaaChecked
import Derived.Test.YtpcniieppbafaaaVlockDef
import Derived.WalkKit
import Derived.Laws.LoneSync
import Derived.WalkLawsBesides
import Derived.WalkSpells
namespace Go.Proofs.Ytpcniieppbafaaa
open Go.RowKit
open Vl
theorem vVersion_any (a : Int) (w : World) : Calls Try.prog 25 #[.int .u64 a] w fun e w' => e = .returned (.int .u64 (ver a)) ∧ w = w' := by
  go_enter Try.func25, Try.ntmps25
  go_wp2
  go_ret
  exact ⟨rfl, rfl⟩
theorem vLocked_any (a : Int) (w : World) : Calls Try.prog 26 #[.int .u64 a] w fun e w' => e = .returned (.bool (lkd a)) ∧ w = w' := by
  go_enter Try.func26, Try.ntmps26
  go_wp2
  go_ret
  exact ⟨rfl, rfl⟩
theorem vDead_any (a : Int) (w : World) : Calls Try.prog 27 #[.int .u64 a] w fun e w' => e = .returned (.bool (ded a)) ∧ w = w' := by
  go_enter Try.func27, Try.ntmps27
  go_wp2
  go_ret
  exact ⟨rfl, rfl⟩
theorem vopen_any (a : Int) (w : World) : Calls Try.prog 34 #[.int .u64 a] w fun e w' => e = .returned (.bool (opn a)) ∧ w = w' := by
  go_enter Try.func34, Try.ntmps34
  go_wp2
  go_ret
  exact ⟨rfl, rfl⟩
theorem vBegin_yes (a : Int) (w : World) (h : opn a = true) : Calls Try.prog 20 #[.int .u64 a] w fun e w' => e = .returned (.tuple #[.int .u64 a, .bool true]) ∧ w = w' := by
  go_enter Try.func20, Try.ntmps20
  go_wp2_with (go_at_call 34; refine (vopen_any _ _).mono ?_; rintro e w' ⟨rfl, rfl⟩)
  go_ret2
  exact ⟨rfl, rfl⟩
theorem vBegin_no (a : Int) (w : World) (h : opn a = false) : Calls Try.prog 20 #[.int .u64 a] w fun e w' => e = .returned (.tuple #[.int .u64 0, .bool false]) ∧ w = w' := by
  go_enter Try.func20, Try.ntmps20
  go_wp2_with (go_at_call 34; refine (vopen_any _ _).mono ?_; rintro e w' ⟨rfl, rfl⟩)
  go_ret2
  exact ⟨rfl, rfl⟩
theorem vValid_any (a b : Int) (w : World) : Calls Try.prog 22 #[.int .u64 a, .int .u64 b] w fun e w' => e = .returned (.bool (opn a && a == b)) ∧ w = w' := by
  cases h : opn a
  all_goals
    go_enter Try.func22, Try.ntmps22
    go_wp2_with (go_at_call 34; refine (vopen_any _ _).mono ?_; rintro e w' ⟨rfl, rfl⟩)
    go_ret
    exact ⟨rfl, rfl⟩
theorem vLock_yes (a : Int) (w : World) (h : opn a = true) : Calls Try.prog 21 #[.int .u64 a] w fun e w' => e = .returned (.tuple #[.int .u64 (lck a), .bool true]) ∧ w = w' := by
  go_enter Try.func21, Try.ntmps21
  go_wp2_with (go_at_call 34; refine (vopen_any _ _).mono ?_; rintro e w' ⟨rfl, rfl⟩)
  go_ret2
  exact ⟨rfl, rfl⟩
theorem vLock_no (a : Int) (w : World) (h : opn a = false) : Calls Try.prog 21 #[.int .u64 a] w fun e w' => e = .returned (.tuple #[.int .u64 a, .bool false]) ∧ w = w' := by
  go_enter Try.func21, Try.ntmps21
  go_wp2_with (go_at_call 34; refine (vopen_any _ _).mono ?_; rintro e w' ⟨rfl, rfl⟩)
  go_ret2
  exact ⟨rfl, rfl⟩
theorem vUnlock_yes (a : Int) (w : World) (h : lkd a = true) : Calls Try.prog 23 #[.int .u64 a] w fun e w' => e = .returned (.int .u64 (unl a)) ∧ w = w' := by
  go_enter Try.func23, Try.ntmps23
  go_wp2_with (go_at_call 26; refine (vLocked_any _ _).mono ?_; rintro e w' ⟨rfl, rfl⟩)
  go_ret
  exact ⟨rfl, rfl⟩
theorem vUnlock_no (a : Int) (w : World) (h : lkd a = false) : Calls Try.prog 23 #[.int .u64 a] w fun e w' => e = .returned (.int .u64 a) ∧ w = w' := by
  go_enter Try.func23, Try.ntmps23
  go_wp2_with (go_at_call 26; refine (vLocked_any _ _).mono ?_; rintro e w' ⟨rfl, rfl⟩)
  go_ret
  exact ⟨rfl, rfl⟩
theorem vKill_yes (a : Int) (w : World) (h : ded a = true) : Calls Try.prog 24 #[.int .u64 a] w fun e w' => e = .returned (.int .u64 (kil0 a)) ∧ w = w' := by
  go_enter Try.func24, Try.ntmps24
  go_wp2_with (go_at_call 27; refine (vDead_any _ _).mono ?_; rintro e w' ⟨rfl, rfl⟩)
  go_ret
  exact ⟨rfl, rfl⟩
theorem vKill_no (a : Int) (w : World) (h : ded a = false) : Calls Try.prog 24 #[.int .u64 a] w fun e w' => e = .returned (.int .u64 (kil1 a)) ∧ w = w' := by
  go_enter Try.func24, Try.ntmps24
  go_wp2_with (go_at_call 27; refine (vDead_any _ _).mono ?_; rintro e w' ⟨rfl, rfl⟩)
  go_ret
  exact ⟨rfl, rfl⟩
/-! ### The atomic number of a cell -/
theorem aLoad_any (p : Addr) (x : Int) (w : World) (h0 : w.cell? p = some (.int .u64 x)) : Calls Try.prog 33 #[.pointer (some p)] w fun e w' => e = .returned (.int .u64 x) ∧ w = w' := by
  have hl := run_call_load (P := Try.prog) Try.func37 (by kernel_rfl) (by kernel_rfl) (by kernel_rfl) .u64 (by kernel_rfl) h0
  go_enter Try.func33, Try.ntmps33
  go_wp2
  go_ret
  exact ⟨rfl, rfl⟩
theorem aStore_any (p : Addr) (x y : Int) (w : World) (h0 : w.cell? p = some (.int .u64 x)) (f0 : w.frozen? p = false) :
    Calls Try.prog 29 #[.pointer (some p), .int .u64 y] w fun e w' => e = .returned (.tuple #[]) ∧ w.setCell p (.int .u64 y) = w' := by
  have hl := run_call_store (P := Try.prog) Try.func35 (by kernel_rfl) (by kernel_rfl) (by kernel_rfl) (by kernel_rfl) (k := .u64) (y := y) h0 f0
  go_enter Try.func29, Try.ntmps29
  go_wp2
  go_end0
  exact ⟨rfl, rfl⟩
theorem aCas_hit (p : Addr) (x y : Int) (w : World) (h0 : w.cell? p = some (.int .u64 x)) (f0 : w.frozen? p = false) :
    Calls Try.prog 30 #[.pointer (some p), .int .u64 x, .int .u64 y] w fun e w' => e = .returned (.bool true) ∧ w.setCell p (.int .u64 y) = w' := by
  have hl := run_call_cas_hit (P := Try.prog) Try.func36 (by kernel_rfl) (by kernel_rfl) (by kernel_rfl) .u64 (by kernel_rfl) (y := y) h0 f0
  go_enter Try.func30, Try.ntmps30
  go_wp2
  go_ret
  exact ⟨rfl, rfl⟩
theorem aCas_miss (p : Addr) (x o y : Int) (w : World) (h0 : w.cell? p = some (.int .u64 x)) (f0 : w.frozen? p = false) (hne : ¬ x = o) :
    Calls Try.prog 30 #[.pointer (some p), .int .u64 o, .int .u64 y] w fun e w' => e = .returned (.bool false) ∧ w = w' := by
  have hl := run_call_cas_miss (P := Try.prog) Try.func36 (by kernel_rfl) (by kernel_rfl) (by kernel_rfl) .u64 (by kernel_rfl) (o := o) (y := y) h0 f0 hne
  go_enter Try.func30, Try.ntmps30
  go_wp2
  go_ret
  exact ⟨rfl, rfl⟩
/-! ### Cells -/
theorem cLoad_any (p : Addr) (x : Int) (w : World) (h0 : w.cell? p = some (.int .u64 x)) : Calls Try.prog 19 #[.pointer (some p)] w fun e w' => e = .returned (.int .u64 x) ∧ w = w' := by
  go_enter Try.func19, Try.ntmps19
  go_wp2_with (go_at_call 33; refine (aLoad_any _ _ _ h0).mono ?_; rintro e w' ⟨rfl, rfl⟩)
  go_ret
  exact ⟨rfl, rfl⟩
theorem cLoad_nil (w : World) : Calls Try.prog 19 #[.pointer none] w fun e w' => e = .returned (.int .u64 0) ∧ w = w' := by
  go_enter Try.func19, Try.ntmps19
  go_wp2
  go_ret
  exact ⟨rfl, rfl⟩
theorem cStore_any (p : Addr) (x y : Int) (w : World) (h0 : w.cell? p = some (.int .u64 x)) (f0 : w.frozen? p = false) :
    Calls Try.prog 11 #[.pointer (some p), .int .u64 y] w fun e w' => e = .returned (.tuple #[]) ∧ w.setCell p (.int .u64 y) = w' := by
  go_enter Try.func11, Try.ntmps11
  go_wp2_with (go_at_call 29; refine (aStore_any _ _ _ _ h0 f0).mono ?_; rintro e w' ⟨rfl, rfl⟩)
  go_end0
  exact ⟨rfl, rfl⟩
theorem cStore_nil (y : Int) (w : World) : Calls Try.prog 11 #[.pointer none, .int .u64 y] w fun e w' => e = .returned (.tuple #[]) ∧ w = w' := by
  go_enter Try.func11, Try.ntmps11
  go_wp2
  go_end0
  exact ⟨rfl, rfl⟩
theorem cCas_hit (p : Addr) (x y : Int) (w : World) (h0 : w.cell? p = some (.int .u64 x)) (f0 : w.frozen? p = false) :
    Calls Try.prog 12 #[.pointer (some p), .int .u64 x, .int .u64 y] w fun e w' => e = .returned (.bool true) ∧ w.setCell p (.int .u64 y) = w' := by
  go_enter Try.func12, Try.ntmps12
  go_wp2_with (go_at_call 30; refine (aCas_hit _ _ _ _ h0 f0).mono ?_; rintro e w' ⟨rfl, rfl⟩)
  go_ret
  exact ⟨rfl, rfl⟩
theorem cCas_miss (p : Addr) (x o y : Int) (w : World) (h0 : w.cell? p = some (.int .u64 x)) (f0 : w.frozen? p = false) (hne : ¬ x = o) :
    Calls Try.prog 12 #[.pointer (some p), .int .u64 o, .int .u64 y] w fun e w' => e = .returned (.bool false) ∧ w = w' := by
  go_enter Try.func12, Try.ntmps12
  go_wp2_with (go_at_call 30; refine (aCas_miss _ _ _ _ _ h0 f0 hne).mono ?_; rintro e w' ⟨rfl, rfl⟩)
  go_ret
  exact ⟨rfl, rfl⟩
theorem cCas_nil (o y : Int) (w : World) : Calls Try.prog 12 #[.pointer none, .int .u64 o, .int .u64 y] w fun e w' => e = .returned (.bool false) ∧ w = w' := by
  go_enter Try.func12, Try.ntmps12
  go_wp2
  go_ret
  exact ⟨rfl, rfl⟩
end Go.Proofs.Ytpcniieppbafaaa
