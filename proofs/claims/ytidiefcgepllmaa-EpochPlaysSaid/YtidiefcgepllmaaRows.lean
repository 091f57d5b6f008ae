/-
  No cell of these rows narrows 'for every input' (looked for: loops, veiled, ifaces, maps, wideKeys, modest, calm, conditions, laid).
  DERIVED. THE GIVEN ROWS OF THIS SEAT. 5 by the template 'for every input the law returns true; each argument reads behind the call as it read before'; 0 by the template 'total and deterministic' (their statements: YtidiefcgepllmaaTotals.lean).
  GIVEN WITH THE SEED: the statements are not yours to turn. If you find one false, say at which input.
  Laid BY PROGRAM, IN A SANDBOX (cutbox-rows.mjs): the forced cells as the released guide's own fill.sh prints them over the translation d2b3f84fe43d3496… (all of the seat's roots in one cut). By AI agents, Wed Nov 11 2026. No macro, syntax, notation, axiom, sorry.
-/
import Derived.Test.YtidiefcgepllmaaChecked
import GoSem.Claim
import GoSem.ClaimJoined
import GoSem.ClaimMapViews
import Derived.JoinedTies
import Derived.KernelRfl
namespace Go.Proofs.Ytidiefcgepllmaa
/- THE CELL 'sum', in the pinned program and in every row, IS THE sha256 OF THE DUMP (.gsa) THAT YtidiefcgepllmaaProg.lean LOADS. Nothing in Lean hashes anything: it is a label: what it is worth is what the hold of that sum in a sandbox is worth. -/
noncomputable def Try.pinned : Pinned := { name := "ytidiefcgepllmaa", sum := "d2b3f84fe43d3496e74a1f250af82641a2823e4a93c4e2327f7f9b51fa4d7d90", checked := Try.checked }
namespace Rows
def none {H : Type} : Left H := { results := [], args := [] }

/-- 'marshallinglaw04.EpochKnown': WHATEVER THE INPUT: true; the input reads as it did. -/
def epochKnownSpec : ChangeSpec := { name := "epochKnown", fn := fun _ => fun
  | [] => { results := [.lit (.bool true)], args := [] }
  | _ => none }
def epochKnownRow : OpenClaim := { program := "ytidiefcgepllmaa", sum := "d2b3f84fe43d3496e74a1f250af82641a2823e4a93c4e2327f7f9b51fa4d7d90", func := "marshalling/marshallinglaw04.EpochKnown", spec := "epochKnown", unfollowed := true, recurses := true, apart := false }
def EpochKnownSaid : Prop := epochKnownRow.holds Try.pinned (OpenSpec.ofChange epochKnownSpec)

/-- ITS FALSE NEIGHBOUR: 'it returns false'. Refute it at one input. -/
def epochKnownWrong : ChangeSpec := { name := "epochKnown", fn := fun _ => fun
  | [] => { results := [.lit (.bool false)], args := [] }
  | _ => none }
def EpochKnownWrongFalsely : Prop := epochKnownRow.holds Try.pinned (OpenSpec.ofChange epochKnownWrong)

/-- 'marshallinglaw04.EpochPlays': WHATEVER THE INPUT: true; the input reads as it did. -/
def epochPlaysSpec : ChangeSpec := { name := "epochPlays", fn := fun _ => fun
  | [d] => { results := [.lit (.bool true)], args := [d] }
  | _ => none }
def epochPlaysRow : OpenClaim := { program := "ytidiefcgepllmaa", sum := "d2b3f84fe43d3496e74a1f250af82641a2823e4a93c4e2327f7f9b51fa4d7d90", func := "marshalling/marshallinglaw04.EpochPlays", spec := "epochPlays", unfollowed := true, recurses := true, apart := false }
def EpochPlaysSaid : Prop := epochPlaysRow.holds Try.pinned (OpenSpec.ofChange epochPlaysSpec)

/-- ITS FALSE NEIGHBOUR: 'it returns false'. Refute it at one input. -/
def epochPlaysWrong : ChangeSpec := { name := "epochPlays", fn := fun _ => fun
  | [d] => { results := [.lit (.bool false)], args := [d] }
  | _ => none }
def EpochPlaysWrongFalsely : Prop := epochPlaysRow.holds Try.pinned (OpenSpec.ofChange epochPlaysWrong)

/-- 'marshallinglaw04.EpochSafe': WHATEVER THE INPUT: true; the input reads as it did. -/
def epochSafeSpec : ChangeSpec := { name := "epochSafe", fn := fun _ => fun
  | [d] => { results := [.lit (.bool true)], args := [d] }
  | _ => none }
def epochSafeRow : OpenClaim := { program := "ytidiefcgepllmaa", sum := "d2b3f84fe43d3496e74a1f250af82641a2823e4a93c4e2327f7f9b51fa4d7d90", func := "marshalling/marshallinglaw04.EpochSafe", spec := "epochSafe", unfollowed := true, recurses := true, apart := false }
def EpochSafeSaid : Prop := epochSafeRow.holds Try.pinned (OpenSpec.ofChange epochSafeSpec)

/-- ITS FALSE NEIGHBOUR: 'it returns false'. Refute it at one input. -/
def epochSafeWrong : ChangeSpec := { name := "epochSafe", fn := fun _ => fun
  | [d] => { results := [.lit (.bool false)], args := [d] }
  | _ => none }
def EpochSafeWrongFalsely : Prop := epochSafeRow.holds Try.pinned (OpenSpec.ofChange epochSafeWrong)

/-- 'marshallinglaw04.EpochRow': WHATEVER THE INPUT: true; the input reads as it did. -/
def epochRowSpec : ChangeSpec := { name := "epochRow", fn := fun _ => fun
  | [d] => { results := [.lit (.bool true)], args := [d] }
  | _ => none }
def epochRowRow : OpenClaim := { program := "ytidiefcgepllmaa", sum := "d2b3f84fe43d3496e74a1f250af82641a2823e4a93c4e2327f7f9b51fa4d7d90", func := "marshalling/marshallinglaw04.EpochRow", spec := "epochRow", unfollowed := true, recurses := true, apart := false }
def EpochRowSaid : Prop := epochRowRow.holds Try.pinned (OpenSpec.ofChange epochRowSpec)

/-- ITS FALSE NEIGHBOUR: 'it returns false'. Refute it at one input. -/
def epochRowWrong : ChangeSpec := { name := "epochRow", fn := fun _ => fun
  | [d] => { results := [.lit (.bool false)], args := [d] }
  | _ => none }
def EpochRowWrongFalsely : Prop := epochRowRow.holds Try.pinned (OpenSpec.ofChange epochRowWrong)

/-- 'marshallinglaw04.EpochPins': WHATEVER THE INPUT: true; the input reads as it did. -/
def epochPinsSpec : ChangeSpec := { name := "epochPins", fn := fun _ => fun
  | [d] => { results := [.lit (.bool true)], args := [d] }
  | _ => none }
def epochPinsRow : OpenClaim := { program := "ytidiefcgepllmaa", sum := "d2b3f84fe43d3496e74a1f250af82641a2823e4a93c4e2327f7f9b51fa4d7d90", func := "marshalling/marshallinglaw04.EpochPins", spec := "epochPins", unfollowed := true, recurses := true, apart := false }
def EpochPinsSaid : Prop := epochPinsRow.holds Try.pinned (OpenSpec.ofChange epochPinsSpec)

/-- ITS FALSE NEIGHBOUR: 'it returns false'. Refute it at one input. -/
def epochPinsWrong : ChangeSpec := { name := "epochPins", fn := fun _ => fun
  | [d] => { results := [.lit (.bool false)], args := [d] }
  | _ => none }
def EpochPinsWrongFalsely : Prop := epochPinsRow.holds Try.pinned (OpenSpec.ofChange epochPinsWrong)

/- THE SECOND FORM. 'bulk': how many values and letters a reading holds, each counted each time it is reached (what is shared counts as often as it is met; a slice's spare places count too). A statement '..UptoSaid' is the law's where the arguments, and the package variables that the reading takes, are together of bulk at most 1048576: NARROWER than '..Said'. Prove '..Said' where nothing that the law and all that it calls make is longer than what came in: it says more and counts as full. Else prove '..UptoSaid'. A law counts once. -/
mutual
def uptoBulk {H : Type} : DataW H → Nat
  | .lit (.string bytes) => bytes.length + 1
  | .lit _ => 1
  | .nil => 1
  | .ptr d => uptoBulk d + 1
  | .slice elems spare => uptoBulkAll elems + uptoBulkAll spare + 1
  | .agg parts => uptoBulkAll parts + 1
  | .iface _ d => uptoBulk d + 1
  | .map entries => uptoBulkEntries entries + 1
  | .held _ => 1
def uptoBulkAll {H : Type} : List (DataW H) → Nat
  | [] => 0
  | d :: r => uptoBulk d + uptoBulkAll r
def uptoBulkEntries {H : Type} : List (Lit × DataW H) → Nat
  | [] => 0
  | x :: r => uptoBulkEntry x + uptoBulkEntries r
def uptoBulkEntry {H : Type} : Lit × DataW H → Nat
  | (.string bytes, d) => bytes.length + uptoBulk d + 1
  | (_, d) => uptoBulk d + 1
 end
def uptoSmall : (H : Type) → List (DataW H) → Bool := fun _ ds => decide (uptoBulkAll ds ≤ 1048576)
def OpenSpec.upto (s : _root_.Go.ChangeSpec) : _root_.Go.OpenSpec := { _root_.Go.OpenSpec.ofChange s with cond := some uptoSmall }

/-- 'marshallinglaw04.EpochKnown', WHERE WHAT IT READS IS OF BULK AT MOST 1048576: true; the input reads as it did. -/
def epochKnownUptoRow : OpenClaim := { program := "ytidiefcgepllmaa", sum := "d2b3f84fe43d3496e74a1f250af82641a2823e4a93c4e2327f7f9b51fa4d7d90", func := "marshalling/marshallinglaw04.EpochKnown", spec := "epochKnown", unfollowed := true, recurses := true, apart := false, narrowed := true }
def EpochKnownUptoSaid : Prop := epochKnownUptoRow.holds Try.pinned (OpenSpec.upto epochKnownSpec)

/-- 'marshallinglaw04.EpochPlays', WHERE WHAT IT READS IS OF BULK AT MOST 1048576: true; the input reads as it did. -/
def epochPlaysUptoRow : OpenClaim := { program := "ytidiefcgepllmaa", sum := "d2b3f84fe43d3496e74a1f250af82641a2823e4a93c4e2327f7f9b51fa4d7d90", func := "marshalling/marshallinglaw04.EpochPlays", spec := "epochPlays", unfollowed := true, recurses := true, apart := false, narrowed := true }
def EpochPlaysUptoSaid : Prop := epochPlaysUptoRow.holds Try.pinned (OpenSpec.upto epochPlaysSpec)

/-- 'marshallinglaw04.EpochSafe', WHERE WHAT IT READS IS OF BULK AT MOST 1048576: true; the input reads as it did. -/
def epochSafeUptoRow : OpenClaim := { program := "ytidiefcgepllmaa", sum := "d2b3f84fe43d3496e74a1f250af82641a2823e4a93c4e2327f7f9b51fa4d7d90", func := "marshalling/marshallinglaw04.EpochSafe", spec := "epochSafe", unfollowed := true, recurses := true, apart := false, narrowed := true }
def EpochSafeUptoSaid : Prop := epochSafeUptoRow.holds Try.pinned (OpenSpec.upto epochSafeSpec)

/-- 'marshallinglaw04.EpochRow', WHERE WHAT IT READS IS OF BULK AT MOST 1048576: true; the input reads as it did. -/
def epochRowUptoRow : OpenClaim := { program := "ytidiefcgepllmaa", sum := "d2b3f84fe43d3496e74a1f250af82641a2823e4a93c4e2327f7f9b51fa4d7d90", func := "marshalling/marshallinglaw04.EpochRow", spec := "epochRow", unfollowed := true, recurses := true, apart := false, narrowed := true }
def EpochRowUptoSaid : Prop := epochRowUptoRow.holds Try.pinned (OpenSpec.upto epochRowSpec)

/-- 'marshallinglaw04.EpochPins', WHERE WHAT IT READS IS OF BULK AT MOST 1048576: true; the input reads as it did. -/
def epochPinsUptoRow : OpenClaim := { program := "ytidiefcgepllmaa", sum := "d2b3f84fe43d3496e74a1f250af82641a2823e4a93c4e2327f7f9b51fa4d7d90", func := "marshalling/marshallinglaw04.EpochPins", spec := "epochPins", unfollowed := true, recurses := true, apart := false, narrowed := true }
def EpochPinsUptoSaid : Prop := epochPinsUptoRow.holds Try.pinned (OpenSpec.upto epochPinsSpec)

end Rows
end Go.Proofs.Ytidiefcgepllmaa
