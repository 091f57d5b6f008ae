/- The arena's Handles, as Drop asks for it. -/
import Derived.Test.YtlhobbfncjjeaaaHandlesOfNode
import Derived.Test.YtlhobbfncjjeaaaBkDrop
namespace Go.Proofs.Ytlhobbfncjjeaaa
open Go.RowKit
theorem hands_ok : HandsOK := by
  intro A p W h hb hl
  refine (ANode.aHandles_any A [] p W h hb hl).mono ?_
  rintro e w' ⟨a, c, he, hr, hb'⟩
  refine ⟨a, c, handsOf A.L, he, ?_, List.mergeSort_perm _ _, hb'⟩
  exact hr
end Go.Proofs.Ytlhobbfncjjeaaa
