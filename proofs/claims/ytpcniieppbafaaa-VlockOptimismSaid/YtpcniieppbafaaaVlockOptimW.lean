/- The walk of the law VlockOptimism, for any word, list and places that fit their kinds. -/
import Derived.Test.YtpcniieppbafaaaVlockOptim
namespace Go.Proofs.Ytpcniieppbafaaa
open Go.RowKit
open Vl
theorem optim_walk (a : Int) (s : Option Addr) (len cap : Nat) (rows : List (List Value)) (fr to : Int) (w : World) (ha : (Lit.int .u64 a).wf = true) (hr : IsFlat [.inl .u8] w s len rows) (hf : (Lit.int .u16 fr).wf = true) (ht : (Lit.int .u16 to).wf = true) :
    Calls Try.prog 8 #[.int .u64 a, .slice s len cap, .int .u16 fr, .int .u16 to] w fun e w' => e = .returned (.bool true) ∧ Below w.heap.size w w' := by
  by_cases hl : 300 < len
  · exact optim_long a s len cap hl fr to w
  obtain ⟨v, d, l, hv, rfl⟩ := wd_of a (wf_u64 ha).1 (wf_u64 ha).2
  have h1 : 0 ≤ fr ∧ fr ≤ 65535 := by
    simp [Lit.wf, IntKind.min, IntKind.max, IntKind.signed, IntKind.bits] at hf
    omega
  have h2 : 0 ≤ to ∧ to ≤ 65535 := by
    simp [Lit.wf, IntKind.min, IntKind.max, IntKind.signed, IntKind.bits] at ht
    omega
  exact optim_mk v d l hv s len cap rows fr to w hr (by omega) h1 h2
end Go.Proofs.Ytpcniieppbafaaa
