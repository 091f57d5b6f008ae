/-
  No cell of these rows narrows 'for every input' (looked for: loops, veiled, ifaces, maps, wideKeys, modest, calm, conditions, laid).
  DERIVED. THE GIVEN ROWS OF THIS SEAT. 6 by the template 'for every input the law returns true; each argument reads behind the call as it read before'; 0 by the template 'total and deterministic' (their statements: YtlhobbfncjjeaaaTotals.lean).
  GIVEN WITH THE SEED: the statements are not yours to turn. If you find one false, say at which input.
  Laid BY PROGRAM, IN A SANDBOX (cutbox-rows.mjs): the forced cells as the released guide's own fill.sh prints them over the translation 2abde06de5d37c4c… (all of the seat's roots in one cut). By AI agents, Wed Nov 11 2026. No macro, syntax, notation, axiom, sorry.
-/
import Derived.Test.YtlhobbfncjjeaaaChecked
import GoSem.Claim
import GoSem.ClaimJoined
import GoSem.ClaimMapViews
import Derived.JoinedTies
import Derived.KernelRfl
namespace Go.Proofs.Ytlhobbfncjjeaaa
/- THE CELL 'sum', in the pinned program and in every row, IS THE sha256 OF THE DUMP (.gsa) THAT YtlhobbfncjjeaaaProg.lean LOADS. Nothing in Lean hashes anything: it is a label: what it is worth is what the hold of that sum in a sandbox is worth. -/
noncomputable def Try.pinned : Pinned := { name := "ytlhobbfncjjeaaa", sum := "2abde06de5d37c4cf709deb282f27b75adfdf56c6a5365075a7ad2fd9e3e296e", checked := Try.checked }
namespace Rows
def none {H : Type} : Left H := { results := [], args := [] }

/-- 'marshallinglaw10.BlinkReaders': WHATEVER THE INPUT: true; the input reads as it did. -/
def blinkReadersSpec : ChangeSpec := { name := "blinkReaders", fn := fun _ => fun
  | [d1, d2, d3, d4, d5] => { results := [.lit (.bool true)], args := [d1, d2, d3, d4, d5] }
  | _ => none }
def blinkReadersRow : OpenClaim := { program := "ytlhobbfncjjeaaa", sum := "2abde06de5d37c4cf709deb282f27b75adfdf56c6a5365075a7ad2fd9e3e296e", func := "marshalling/marshallinglaw10.BlinkReaders", spec := "blinkReaders", inPlace := ["internal/bytealg.abigen_runtime_cmpstring", "slices.overlaps[string]", "slices.overlaps[marshalling/api.Handle]"], unfollowed := true, recurses := true, apart := false }
def BlinkReadersSaid : Prop := blinkReadersRow.holds Try.pinned (OpenSpec.ofChange blinkReadersSpec)

/-- ITS FALSE NEIGHBOUR: 'it returns false'. Refute it at one input. -/
def blinkReadersWrong : ChangeSpec := { name := "blinkReaders", fn := fun _ => fun
  | [d1, d2, d3, d4, d5] => { results := [.lit (.bool false)], args := [d1, d2, d3, d4, d5] }
  | _ => none }
def BlinkReadersWrongFalsely : Prop := blinkReadersRow.holds Try.pinned (OpenSpec.ofChange blinkReadersWrong)

/-- 'marshallinglaw10.BlinkAlike': WHATEVER THE INPUT: true; the input reads as it did. -/
def blinkAlikeSpec : ChangeSpec := { name := "blinkAlike", fn := fun _ => fun
  | [d1, d2, d3] => { results := [.lit (.bool true)], args := [d1, d2, d3] }
  | _ => none }
def blinkAlikeRow : OpenClaim := { program := "ytlhobbfncjjeaaa", sum := "2abde06de5d37c4cf709deb282f27b75adfdf56c6a5365075a7ad2fd9e3e296e", func := "marshalling/marshallinglaw10.BlinkAlike", spec := "blinkAlike", inPlace := ["internal/bytealg.abigen_runtime_cmpstring", "slices.overlaps[string]", "slices.overlaps[marshalling/api.Handle]"], unfollowed := true, recurses := true, apart := false }
def BlinkAlikeSaid : Prop := blinkAlikeRow.holds Try.pinned (OpenSpec.ofChange blinkAlikeSpec)

/-- ITS FALSE NEIGHBOUR: 'it returns false'. Refute it at one input. -/
def blinkAlikeWrong : ChangeSpec := { name := "blinkAlike", fn := fun _ => fun
  | [d1, d2, d3] => { results := [.lit (.bool false)], args := [d1, d2, d3] }
  | _ => none }
def BlinkAlikeWrongFalsely : Prop := blinkAlikeRow.holds Try.pinned (OpenSpec.ofChange blinkAlikeWrong)

/-- 'marshallinglaw10.BlinkKeeps': WHATEVER THE INPUT: true; the input reads as it did. -/
def blinkKeepsSpec : ChangeSpec := { name := "blinkKeeps", fn := fun _ => fun
  | [d] => { results := [.lit (.bool true)], args := [d] }
  | _ => none }
def blinkKeepsRow : OpenClaim := { program := "ytlhobbfncjjeaaa", sum := "2abde06de5d37c4cf709deb282f27b75adfdf56c6a5365075a7ad2fd9e3e296e", func := "marshalling/marshallinglaw10.BlinkKeeps", spec := "blinkKeeps", inPlace := ["internal/bytealg.abigen_runtime_cmpstring", "slices.overlaps[string]", "slices.overlaps[marshalling/api.Handle]"], unfollowed := true, recurses := true, apart := false }
def BlinkKeepsSaid : Prop := blinkKeepsRow.holds Try.pinned (OpenSpec.ofChange blinkKeepsSpec)

/-- ITS FALSE NEIGHBOUR: 'it returns false'. Refute it at one input. -/
def blinkKeepsWrong : ChangeSpec := { name := "blinkKeeps", fn := fun _ => fun
  | [d] => { results := [.lit (.bool false)], args := [d] }
  | _ => none }
def BlinkKeepsWrongFalsely : Prop := blinkKeepsRow.holds Try.pinned (OpenSpec.ofChange blinkKeepsWrong)

/-- 'marshallinglaw10.BlinkFree': WHATEVER THE INPUT: true; the input reads as it did. -/
def blinkFreeSpec : ChangeSpec := { name := "blinkFree", fn := fun _ => fun
  | [d1, d2] => { results := [.lit (.bool true)], args := [d1, d2] }
  | _ => none }
def blinkFreeRow : OpenClaim := { program := "ytlhobbfncjjeaaa", sum := "2abde06de5d37c4cf709deb282f27b75adfdf56c6a5365075a7ad2fd9e3e296e", func := "marshalling/marshallinglaw10.BlinkFree", spec := "blinkFree", inPlace := ["internal/bytealg.abigen_runtime_cmpstring", "slices.overlaps[string]", "slices.overlaps[marshalling/api.Handle]"], unfollowed := true, recurses := true, apart := false }
def BlinkFreeSaid : Prop := blinkFreeRow.holds Try.pinned (OpenSpec.ofChange blinkFreeSpec)

/-- ITS FALSE NEIGHBOUR: 'it returns false'. Refute it at one input. -/
def blinkFreeWrong : ChangeSpec := { name := "blinkFree", fn := fun _ => fun
  | [d1, d2] => { results := [.lit (.bool false)], args := [d1, d2] }
  | _ => none }
def BlinkFreeWrongFalsely : Prop := blinkFreeRow.holds Try.pinned (OpenSpec.ofChange blinkFreeWrong)

/-- 'marshallinglaw10.BlinkKnown': WHATEVER THE INPUT: true; the input reads as it did. -/
def blinkKnownSpec : ChangeSpec := { name := "blinkKnown", fn := fun _ => fun
  | [] => { results := [.lit (.bool true)], args := [] }
  | _ => none }
def blinkKnownRow : OpenClaim := { program := "ytlhobbfncjjeaaa", sum := "2abde06de5d37c4cf709deb282f27b75adfdf56c6a5365075a7ad2fd9e3e296e", func := "marshalling/marshallinglaw10.BlinkKnown", spec := "blinkKnown", inPlace := ["internal/bytealg.abigen_runtime_cmpstring", "slices.overlaps[string]", "slices.overlaps[marshalling/api.Handle]"], unfollowed := true, recurses := true, apart := false }
def BlinkKnownSaid : Prop := blinkKnownRow.holds Try.pinned (OpenSpec.ofChange blinkKnownSpec)

/-- ITS FALSE NEIGHBOUR: 'it returns false'. Refute it at one input. -/
def blinkKnownWrong : ChangeSpec := { name := "blinkKnown", fn := fun _ => fun
  | [] => { results := [.lit (.bool false)], args := [] }
  | _ => none }
def BlinkKnownWrongFalsely : Prop := blinkKnownRow.holds Try.pinned (OpenSpec.ofChange blinkKnownWrong)

/-- 'marshallinglaw10.BlinkPlays': WHATEVER THE INPUT: true; the input reads as it did. -/
def blinkPlaysSpec : ChangeSpec := { name := "blinkPlays", fn := fun _ => fun
  | [d1, d2] => { results := [.lit (.bool true)], args := [d1, d2] }
  | _ => none }
def blinkPlaysRow : OpenClaim := { program := "ytlhobbfncjjeaaa", sum := "2abde06de5d37c4cf709deb282f27b75adfdf56c6a5365075a7ad2fd9e3e296e", func := "marshalling/marshallinglaw10.BlinkPlays", spec := "blinkPlays", inPlace := ["internal/bytealg.abigen_runtime_cmpstring", "slices.overlaps[string]", "slices.overlaps[marshalling/api.Handle]"], unfollowed := true, recurses := true, apart := false }
def BlinkPlaysSaid : Prop := blinkPlaysRow.holds Try.pinned (OpenSpec.ofChange blinkPlaysSpec)

/-- ITS FALSE NEIGHBOUR: 'it returns false'. Refute it at one input. -/
def blinkPlaysWrong : ChangeSpec := { name := "blinkPlays", fn := fun _ => fun
  | [d1, d2] => { results := [.lit (.bool false)], args := [d1, d2] }
  | _ => none }
def BlinkPlaysWrongFalsely : Prop := blinkPlaysRow.holds Try.pinned (OpenSpec.ofChange blinkPlaysWrong)

/- THE SECOND FORM. 'bulk': how many values and letters a reading holds, each counted each time it is reached (what is shared counts as often as it is met; a slice's spare places count too). A statement '..UptoSaid' is the law's where the arguments, and the package variables that the reading takes, are together of bulk at most 1048576: NARROWER than '..Said'. Prove '..Said' where nothing that the law and all that it calls make is longer than what came in: it says more and counts as full. Else prove '..UptoSaid'. A law counts once. -/
mutual
def uptoBulk {H : Type} : DataW H → Nat
  | .lit (.string bytes) => bytes.length + 1
  | .lit _ => 1
  | .nil => 1
  | .ptr d => uptoBulk d + 1
  | .slice elems spare => uptoBulkAll elems + uptoBulkAll spare + 1
  | .agg parts => uptoBulkAll parts + 1
  | .iface _ d => uptoBulk d + 1
  | .map entries => uptoBulkEntries entries + 1
  | .held _ => 1
def uptoBulkAll {H : Type} : List (DataW H) → Nat
  | [] => 0
  | d :: r => uptoBulk d + uptoBulkAll r
def uptoBulkEntries {H : Type} : List (Lit × DataW H) → Nat
  | [] => 0
  | x :: r => uptoBulkEntry x + uptoBulkEntries r
def uptoBulkEntry {H : Type} : Lit × DataW H → Nat
  | (.string bytes, d) => bytes.length + uptoBulk d + 1
  | (_, d) => uptoBulk d + 1
 end
def uptoSmall : (H : Type) → List (DataW H) → Bool := fun _ ds => decide (uptoBulkAll ds ≤ 1048576)
def OpenSpec.upto (s : _root_.Go.ChangeSpec) : _root_.Go.OpenSpec := { _root_.Go.OpenSpec.ofChange s with cond := some uptoSmall }

/-- 'marshallinglaw10.BlinkReaders', WHERE WHAT IT READS IS OF BULK AT MOST 1048576: true; the input reads as it did. -/
def blinkReadersUptoRow : OpenClaim := { program := "ytlhobbfncjjeaaa", sum := "2abde06de5d37c4cf709deb282f27b75adfdf56c6a5365075a7ad2fd9e3e296e", func := "marshalling/marshallinglaw10.BlinkReaders", spec := "blinkReaders", inPlace := ["internal/bytealg.abigen_runtime_cmpstring", "slices.overlaps[string]", "slices.overlaps[marshalling/api.Handle]"], unfollowed := true, recurses := true, apart := false, narrowed := true }
def BlinkReadersUptoSaid : Prop := blinkReadersUptoRow.holds Try.pinned (OpenSpec.upto blinkReadersSpec)

/-- 'marshallinglaw10.BlinkAlike', WHERE WHAT IT READS IS OF BULK AT MOST 1048576: true; the input reads as it did. -/
def blinkAlikeUptoRow : OpenClaim := { program := "ytlhobbfncjjeaaa", sum := "2abde06de5d37c4cf709deb282f27b75adfdf56c6a5365075a7ad2fd9e3e296e", func := "marshalling/marshallinglaw10.BlinkAlike", spec := "blinkAlike", inPlace := ["internal/bytealg.abigen_runtime_cmpstring", "slices.overlaps[string]", "slices.overlaps[marshalling/api.Handle]"], unfollowed := true, recurses := true, apart := false, narrowed := true }
def BlinkAlikeUptoSaid : Prop := blinkAlikeUptoRow.holds Try.pinned (OpenSpec.upto blinkAlikeSpec)

/-- 'marshallinglaw10.BlinkKeeps', WHERE WHAT IT READS IS OF BULK AT MOST 1048576: true; the input reads as it did. -/
def blinkKeepsUptoRow : OpenClaim := { program := "ytlhobbfncjjeaaa", sum := "2abde06de5d37c4cf709deb282f27b75adfdf56c6a5365075a7ad2fd9e3e296e", func := "marshalling/marshallinglaw10.BlinkKeeps", spec := "blinkKeeps", inPlace := ["internal/bytealg.abigen_runtime_cmpstring", "slices.overlaps[string]", "slices.overlaps[marshalling/api.Handle]"], unfollowed := true, recurses := true, apart := false, narrowed := true }
def BlinkKeepsUptoSaid : Prop := blinkKeepsUptoRow.holds Try.pinned (OpenSpec.upto blinkKeepsSpec)

/-- 'marshallinglaw10.BlinkFree', WHERE WHAT IT READS IS OF BULK AT MOST 1048576: true; the input reads as it did. -/
def blinkFreeUptoRow : OpenClaim := { program := "ytlhobbfncjjeaaa", sum := "2abde06de5d37c4cf709deb282f27b75adfdf56c6a5365075a7ad2fd9e3e296e", func := "marshalling/marshallinglaw10.BlinkFree", spec := "blinkFree", inPlace := ["internal/bytealg.abigen_runtime_cmpstring", "slices.overlaps[string]", "slices.overlaps[marshalling/api.Handle]"], unfollowed := true, recurses := true, apart := false, narrowed := true }
def BlinkFreeUptoSaid : Prop := blinkFreeUptoRow.holds Try.pinned (OpenSpec.upto blinkFreeSpec)

/-- 'marshallinglaw10.BlinkKnown', WHERE WHAT IT READS IS OF BULK AT MOST 1048576: true; the input reads as it did. -/
def blinkKnownUptoRow : OpenClaim := { program := "ytlhobbfncjjeaaa", sum := "2abde06de5d37c4cf709deb282f27b75adfdf56c6a5365075a7ad2fd9e3e296e", func := "marshalling/marshallinglaw10.BlinkKnown", spec := "blinkKnown", inPlace := ["internal/bytealg.abigen_runtime_cmpstring", "slices.overlaps[string]", "slices.overlaps[marshalling/api.Handle]"], unfollowed := true, recurses := true, apart := false, narrowed := true }
def BlinkKnownUptoSaid : Prop := blinkKnownUptoRow.holds Try.pinned (OpenSpec.upto blinkKnownSpec)

/-- 'marshallinglaw10.BlinkPlays', WHERE WHAT IT READS IS OF BULK AT MOST 1048576: true; the input reads as it did. -/
def blinkPlaysUptoRow : OpenClaim := { program := "ytlhobbfncjjeaaa", sum := "2abde06de5d37c4cf709deb282f27b75adfdf56c6a5365075a7ad2fd9e3e296e", func := "marshalling/marshallinglaw10.BlinkPlays", spec := "blinkPlays", inPlace := ["internal/bytealg.abigen_runtime_cmpstring", "slices.overlaps[string]", "slices.overlaps[marshalling/api.Handle]"], unfollowed := true, recurses := true, apart := false, narrowed := true }
def BlinkPlaysUptoSaid : Prop := blinkPlaysUptoRow.holds Try.pinned (OpenSpec.upto blinkPlaysSpec)

end Rows
end Go.Proofs.Ytlhobbfncjjeaaa
