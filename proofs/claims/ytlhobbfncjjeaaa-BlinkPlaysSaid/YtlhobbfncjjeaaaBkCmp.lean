/- The contracts of keys.Compare and what it stands on; of a node's Covers, Full. -/
import Derived.Test.YtlhobbfncjjeaaaChecked
import Derived.Test.YtlhobbfncjjeaaaBGrow
import Derived.Test.YtlhobbfncjjeaaaLib
import Derived.WalkKit
import Derived.WalkLawsBesides
import Derived.WalkSpells
import Derived.Outline
import Derived.BigQuiet
import Derived.WalkSmall
import Derived.LoopTactic
namespace Go.Proofs.Ytlhobbfncjjeaaa
open Go.RowKit
set_option maxRecDepth 100000 in
theorem bytealgCompare_any (a b : Str) (w : World) : Calls Try.prog 92 #[.string a, .string b] w fun e w' => e = .returned (.int .i64 (scmp a b)) ∧ w = w' := by
  go_enter Try.func92, Try.ntmps92
  go_wp2
  rw [run_callFunc_extern Try.func106 (by kernel_rfl) (by kernel_rfl) (by kernel_rfl) (e := Extern.BytealgCompare.compare) (by kernel_rfl), Lib.run_compareString]
  simp only [Result.andThen]
  rw [Oper.upon_value]
  go_wp2
  go_ret
  exact ⟨rfl, rfl⟩
theorem compare_any (a b : Str) (w : World) : Calls Try.prog 68 #[.string a, .string b] w fun e w' => e = .returned (.int .i64 (scmp a b)) ∧ w = w' := by
  have h1 : Calls Try.prog 83 #[.string a, .string b] w fun e w' => e = .returned (.int .i64 (scmp a b)) ∧ w = w' := by
    go_enter Try.func83, Try.ntmps83
    go_wp2_with (go_at_call 92; refine (bytealgCompare_any a b w).mono ?_; rintro e w1 ⟨rfl, rfl⟩)
    go_ret
    exact ⟨rfl, rfl⟩
  go_enter Try.func68, Try.ntmps68
  go_wp2_with (go_at_call 83; refine h1.mono ?_; rintro e w1 ⟨rfl, rfl⟩)
  go_ret
  exact ⟨rfl, rfl⟩
end Go.Proofs.Ytlhobbfncjjeaaa
