/- The walk of the helper 'awake' of the B-link tree's laws: it returns true. -/
import Derived.Test.YtlhobbfncjjeaaaBkTree
import Derived.Laws.IdiomStrings
namespace Go.Proofs.Ytlhobbfncjjeaaa
open Go.RowKit
def awK (k : Nat) : Str := ⟨#[UInt8.ofNat (97 + k)]⟩
def awV : Str := ⟨#[118]⟩
def awC : Nat → Cont
  | 0 => []
  | k + 1 => cput (awC k) (awK k) awV
theorem awC_len : ∀ k, k ≤ 6 → (awC k).length = k := by decide
theorem awC_none : ∀ k, k < 6 → cget (awC k) (awK k) = none := by decide
theorem awC_e : cget (awC 6) ⟨#[101]⟩ = some awV := by decide
set_option maxRecDepth 100000 in
set_option maxHeartbeats 2000000 in
theorem awake10_any (w : World) : Calls Try.prog 9 #[] w fun e w' => e = .returned (.bool true) ∧ Below w.heap.size w w' := by
  go_enter Try.func9, Try.ntmps9
  go_wp2_with fail
  refine (show Calls Try.prog 10 #[.int .i64 9] w _ from arNewPool_some 9 w (by decide) (by decide)).mono ?_
  rintro e w1 ⟨p, g, f, rfl, hB1, hp1, hg1, hf1, hP1⟩
  have hNw := Lib.hid (TreeIs.new (w0 := w) hB1 hP1 ⟨hp1, hg1, hf1⟩ (by decide))
  clear hP1 hB1
  go_wp2_with fail
  refine hNw.out.mono ?_
  clear hNw
  rintro e w2 ⟨t, rfl, hT⟩
  replace hT := Lib.hid hT
  go_wp2_with fail
  go_loopg [5] 6 (fun gk v wr => ∃ k : Nat, gk = 6 - k ∧ k ≤ 6 ∧ v = .int .i64 k ∧ TreeIs w wr p t (awC k) 9 3 true)
  case atStart => exact ⟨0, rfl, by omega, rfl, hT.out.up (by omega)⟩
  case round =>
    clear hT
    obtain ⟨k, rfl, hk, rfl, hT⟩ := hrel
    by_cases hlt : k < 6
    · have hw1 : IntKind.i64.wrap (97 + (k : Int)) = 97 + (k : Int) := IntWalk.i64_in _ (by omega)
      have hw2 : IntKind.u8.wrap (97 + (k : Int)) = 97 + (k : Int) := by simp [IntKind.wrap, IntKind.bits, IntKind.signed]; omega
      have hcv : (convert 23 9 (.slice (some ⟨wr.heap.size, 0, none⟩) 1 1)).run Try.prog (wr.alloc (.cells #[.int .u8 (97 + (k : Int))] 5)) = .ok (.string (awK k)) (wr.alloc (.cells #[.int .u8 (97 + (k : Int))] 5)) := by
        refine run_convert_bytes_back (P := Try.prog) (wr.alloc (.cells #[.int .u8 (97 + (k : Int))] 5)) 23 9 5 ⟨wr.heap.size, 0, none⟩ 1 [UInt8.ofNat (97 + k)] Try.underlying23 Try.underlying5 Try.underlying9 (fun j hj => ?_)
        simp at hj
        subst hj
        show (wr.alloc _).cell? ⟨wr.heap.size, 0, none⟩ = _
        rw [cell_of_heap (heap_alloc_new _ _)]
        simp
        omega
      have hth := hT.thin
      have hal := awC_len k hk
      have hPu := Lib.hid ((hth.below ((Below.refl wr.heap.size wr).alloc (Nat.le_refl _) (.cells #[.int .u8 (97 + (k : Int))] 5))).put (hh := 2) (by omega) (by omega) (by omega) (by omega) (awK k) awV)
      rw [awC_none k hlt] at hPu
      have hl3 : max 1 ((awC k).length / 2) + 1 ≤ 3 := by omega
      replace hal := Lib.hid hal
      replace hl3 := Lib.hid hl3
      replace hth := Lib.hid hth
      replace hT := Lib.hid hT
      go_wp2_with fail
      refine hPu.out.mono ?_
      clear hPu hcv
      rintro z w4 ⟨rfl, hT4⟩
      replace hT4 := Lib.hid hT4
      go_wp2_with fail
      go_roundg (6 - (k + 1))
      case rel => exact ⟨k + 1, rfl, by omega, by go_num, hT4.out.up hl3.out⟩
      case measure => omega
    · obtain rfl : k = 6 := by omega
      have hth := hT.thin
      have hal := awC_len 6 (by decide)
      have hG := Lib.hid (hT.get ⟨#[101]⟩)
      rw [awC_e] at hG
      have hLe := Lib.hid fun W (hW : Below wr.heap.size wr W) => (hT.below hW).len
      have hSl := Lib.hid fun W (hW : Below wr.heap.size wr W) => (hT.below hW).slots
      have hCh := Lib.hid fun W (hW : Below wr.heap.size wr W) => (hT.below hW).check (by omega) (by omega)
      have hbel := Lib.hid hT.bel
      rw [hal] at hLe
      replace hal := Lib.hid hal
      have hv : ByteArray.toList awV = [118] := by rw [ByteArray.toList_eq]; rfl
      clear hth hT
      go_wp2_with fail
      refine hG.out.mono ?_
      clear hG
      rintro z w3 ⟨rfl, hb3⟩
      replace hb3 := Lib.hid hb3
      go_wp2_with fail
      refine (hLe.out _ hb3.out).mono ?_
      rintro z w4 ⟨rfl, rfl⟩
      go_wp2_with fail
      refine (hSl.out _ hb3.out).mono ?_
      rintro z w5 ⟨n, rfl, hb5, _, _, _, hn2, _⟩
      have hn3 : 2 ≤ n := hn2 (by have := hal.out; omega)
      have hn4 : decide ((1 : Int) < (n : Int)) = true := by rw [decide_eq_true_iff]; omega
      have hn5 : decide (1 < n) = true := by rw [decide_eq_true_iff]; omega
      have hb35 := Lib.hid (hb3.out.trans (hb5.mono hb3.out.size))
      clear hn2 hb5
      go_wp2_with fail
      refine (hCh.out _ hb35.out).mono ?_
      rintro z w6 ⟨rfl, hb6⟩
      have hb36 := Lib.hid (hb35.out.trans (hb6.mono hb35.out.size))
      clear hb6
      go_wp2_with fail
      go_ret
      exact ⟨by simp, hbel.out.trans (hb36.out.mono hbel.out.size)⟩
end Go.Proofs.Ytlhobbfncjjeaaa
