/- sync.Once and atomic.Pointer in the run of one goroutine, as package root uses them: contracts of their own. -/
import Derived.Test.YtmmnheobpbmniaaChecked
import Derived.Test.YtmmnheobpbmniaaAtomicPtr
import Derived.Test.YtmmnheobpbmniaaLib
import Derived.Defers
import Derived.Laws.Pointers
import Derived.RegionTactic
import Derived.RegionCalls
import Derived.ChangeAlike
import Derived.WalkKit
import Derived.WalkSpells
import Derived.Outline
namespace Go.Proofs.Ytmmnheobpbmniaa
open Go.RowKit
theorem rc_disable (w : World) : (callFunc 43 #[]).run Try.prog w = .ok (.value (.tuple #[])) w := run_call_mark0 Try.func43 (by kernel_rfl) (by kernel_rfl) (by kernel_rfl) .disable (by kernel_rfl) w
theorem rc_enable (w : World) : (callFunc 45 #[]).run Try.prog w = .ok (.value (.tuple #[])) w := run_call_mark0 Try.func45 (by kernel_rfl) (by kernel_rfl) (by kernel_rfl) .enable (by kernel_rfl) w
theorem rc_acquire (a : Addr) (w : World) : (callFunc 46 #[.pointer (some a)]).run Try.prog w = .ok (.value (.tuple #[])) w := run_call_marked Try.func46 (by kernel_rfl) (by kernel_rfl) (by kernel_rfl) .acquire (by kernel_rfl) a w
theorem rc_releaseMerge (a : Addr) (w : World) : (callFunc 48 #[.pointer (some a)]).run Try.prog w = .ok (.value (.tuple #[])) w := run_call_marked Try.func48 (by kernel_rfl) (by kernel_rfl) (by kernel_rfl) .releaseMerge (by kernel_rfl) a w
/-- '(*sync/atomic.Bool).Store(true)', entered as a deferred call: the cell holds 1. -/
theorem abStore_deferred (a : Addr) (x : Value) (u : FrameMode) (w : World) (hc : w.cell? a = some x) (hz : w.frozen? a = false) :
    CallsD Try.prog 38 #[.pointer (some a), .bool true] u w fun e u' w' => u' = u ∧ (e = .returned (.tuple #[]) ∧ w' = w.drew.setCell a (.int .u32 1)) := by
  have hc' : w.drew.cell? a = some x := by go_simp
  have hz' : w.drew.frozen? a = false := by go_simp
  have hst := run_call_store (P := Try.prog) Try.func41 (by kernel_rfl) (by kernel_rfl) (by kernel_rfl) (by kernel_rfl) (k := .u32) (y := 1) hc' hz'
  go_enter_d Try.func38, Try.ntmps38
  go_wp2
  go_region_calls
  all_goals (go_end0; exact ⟨rfl, rfl⟩)
set_option maxRecDepth 100000 in
/-- '(*sync.Mutex).Unlock', entered as a deferred call, the lock held and nobody waiting. -/
theorem muUnlock_deferred (a : Addr) (u : FrameMode) (w : World) (hc : w.cell? a = some (.int .i32 1)) (hz : w.frozen? a = false) :
    CallsD Try.prog 37 #[.pointer (some a)] u w fun e u' w' => u' = u ∧ (e = .returned (.tuple #[]) ∧ w' = w.setCell a (.int .i32 0)) := by
  have hd := rc_disable
  have he := rc_enable
  have hr := rc_releaseMerge
  have hadd := run_call_add (P := Try.prog) Try.func49 (by kernel_rfl) (by kernel_rfl) (by kernel_rfl) .i32 (by kernel_rfl) (y := -1) (s := 0) hc hz (by simp [go_sem]; rfl)
  have hcv := run_convert_to_unsafe (P := Try.prog) (src := 94) (dst := 53) Try.underlying94 Try.underlying53 (by kernel_rfl) hc
  go_enter_d Try.func37, Try.ntmps37
  go_wp2
  go_end0
  go_wp2
  go_end0
  exact ⟨rfl, rfl⟩
set_option maxRecDepth 100000 in
theorem muLock_free (a : Addr) (w : World) (hc : w.cell? a = some (.int .i32 0)) (hz : w.frozen? a = false) :
    Calls Try.prog 36 #[.pointer (some a)] w fun e w' => e = .returned (.tuple #[]) ∧ w' = w.setCell a (.int .i32 1) := by
  have hd := rc_disable
  have he := rc_enable
  have ha := rc_acquire
  have hcas := run_call_cas_hit (P := Try.prog) Try.func44 (by kernel_rfl) (by kernel_rfl) (by kernel_rfl) .i32 (by kernel_rfl) (y := 1) hc hz
  have hc' : (w.setCell a (.int .i32 1)).cell? a = some (.int .i32 1) := World.cell?_setCell_same w a _ hc
  have hcv := run_convert_to_unsafe (P := Try.prog) (src := 94) (dst := 53) Try.underlying94 Try.underlying53 (by kernel_rfl) hc'
  go_enter Try.func36, Try.ntmps36
  go_wp2
  first | go_end0 | (simp only [Exit.inBlock, Exit.then]; refine bodyPost_ret (results_none rfl _ _ _) rfl ?_) | refine bodyPost_ret (results_none rfl _ _ _) rfl ?_
  go_wp2
  go_end0
  exact ⟨rfl, rfl⟩
theorem apStore_any (a s : Addr) (u v : Value) (w : World) (hc : w.cell? a = some u) (hz : w.frozen? a = false) (hs : w.cell? s = some v) :
    Calls Try.prog 28 #[.pointer (some a), .pointer (some s)] w fun e w' => e = .returned (.tuple #[]) ∧ w.setCell a (.pointer (some s)) = w' := by
  have hst := run_call_storep (P := Try.prog) Try.func33 (by kernel_rfl) (by kernel_rfl) (by kernel_rfl) (by kernel_rfl) (some s) hc hz
  have hcv := run_convert_to_unsafe (P := Try.prog) (src := 51) (dst := 53) Try.underlying51 Try.underlying53 (by kernel_rfl) hs
  go_enter Try.func28, Try.ntmps28
  go_wp2
  go_end0
  exact ⟨rfl, rfl⟩
theorem apLoad_any (a : Addr) (s : Nat) (x y : Value) (w : World) (hc : w.cell? a = some (.pointer (some ⟨s, 0, none⟩))) (hs : w.heap[s]? = some (.cells #[x, y] 73)) :
    Calls Try.prog 29 #[.pointer (some a)] w fun e w' => e = .returned (.pointer (some ⟨s, 0, none⟩)) ∧ w = w' := by
  have hst := run_call_loadp (P := Try.prog) Try.func34 (by kernel_rfl) (by kernel_rfl) (by kernel_rfl) (by kernel_rfl) hc
  have hsh : w.shape? s = some (73, 2) := by unfold World.shape?; rw [hs]; rfl
  have hcv : (convert 53 51 (.pointer (some ⟨s, 0, none⟩))).run Try.prog w = .ok (.pointer (some ⟨s, 0, none⟩)) w := by
    obtain ⟨j, hj⟩ : ∃ j, Try.prog.info? 73 = some j := by
      cases h : Try.prog.info? 73 with
      | some j => exact ⟨j, rfl⟩
      | none =>
        have h2 : (Try.prog.info? 73).isSome = true := by kernel_rfl
        rw [h] at h2
        cases h2
    exact Lib.run_from_unsafe (P := Try.prog) (src := 53) (dst := 51) (u := 73) w ⟨s, 0, none⟩ Try.underlying53 Try.underlying51 hj hsh (by kernel_rfl)
  go_enter Try.func29, Try.ntmps29
  go_wp2
  go_ret
  exact ⟨rfl, rfl⟩
theorem apCas_hit (a s : Addr) (t : Addr) (v v' : Value) (w : World) (hc : w.cell? a = some (.pointer (some s))) (hz : w.frozen? a = false) (hs : w.cell? s = some v) (ht : w.cell? t = some v') :
    Calls Try.prog 25 #[.pointer (some a), .pointer (some s), .pointer (some t)] w fun e w' => e = .returned (.bool true) ∧ w.setCell a (.pointer (some t)) = w' := by
  have hst := run_call_casp_hit (P := Try.prog) Try.func30 (by kernel_rfl) (by kernel_rfl) (by kernel_rfl) (by kernel_rfl) (some t) hc hz
  have hcv := run_convert_to_unsafe (P := Try.prog) (src := 51) (dst := 53) Try.underlying51 Try.underlying53 (by kernel_rfl) hs
  have hcv2 := run_convert_to_unsafe (P := Try.prog) (src := 51) (dst := 53) Try.underlying51 Try.underlying53 (by kernel_rfl) ht
  go_enter Try.func25, Try.ntmps25
  go_wp2
  go_ret
  exact ⟨rfl, rfl⟩
end Go.Proofs.Ytmmnheobpbmniaa
