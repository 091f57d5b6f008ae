/-
  No cell of these rows narrows 'for every input' (looked for: loops, veiled, ifaces, maps, wideKeys, modest, calm, conditions, laid).
  DERIVED. THE GIVEN ROWS OF THIS SEAT. 5 by the template 'for every input the law returns true; each argument reads behind the call as it read before'; 0 by the template 'total and deterministic' (their statements: YtmhlokomlngdmaaTotals.lean).
  GIVEN WITH THE SEED: the statements are not yours to turn. If you find one false, say at which input.
  Laid BY PROGRAM, IN A SANDBOX (cutbox-rows.mjs): the forced cells as the released guide's own fill.sh prints them over the translation bf860bc4609798de… (all of the seat's roots in one cut). By AI agents, Wed Nov 11 2026. No macro, syntax, notation, axiom, sorry.
-/
import Derived.Test.YtmhlokomlngdmaaChecked
import GoSem.Claim
import GoSem.ClaimJoined
import GoSem.ClaimMapViews
import Derived.JoinedTies
import Derived.KernelRfl
namespace Go.Proofs.Ytmhlokomlngdmaa
/- THE CELL 'sum', in the pinned program and in every row, IS THE sha256 OF THE DUMP (.gsa) THAT YtmhlokomlngdmaaProg.lean LOADS. Nothing in Lean hashes anything: it is a label: what it is worth is what the hold of that sum in a sandbox is worth. -/
noncomputable def Try.pinned : Pinned := { name := "ytmhlokomlngdmaa", sum := "bf860bc4609798ded88259d5a3792b47bec30370f79d5a5592de2bc9c261d97d", checked := Try.checked }
namespace Rows
def none {H : Type} : Left H := { results := [], args := [] }

/-- 'marshallinglaw12.ArtWalks': WHATEVER THE INPUT: true; the input reads as it did. -/
def artWalksSpec : ChangeSpec := { name := "artWalks", fn := fun _ => fun
  | [d1, d2] => { results := [.lit (.bool true)], args := [d1, d2] }
  | _ => none }
def artWalksRow : OpenClaim := { program := "ytmhlokomlngdmaa", sum := "bf860bc4609798ded88259d5a3792b47bec30370f79d5a5592de2bc9c261d97d", func := "marshalling/marshallinglaw12.ArtWalks", spec := "artWalks", unfollowed := true, recurses := true, apart := false }
def ArtWalksSaid : Prop := artWalksRow.holds Try.pinned (OpenSpec.ofChange artWalksSpec)

/-- ITS FALSE NEIGHBOUR: 'it returns false'. Refute it at one input. -/
def artWalksWrong : ChangeSpec := { name := "artWalks", fn := fun _ => fun
  | [d1, d2] => { results := [.lit (.bool false)], args := [d1, d2] }
  | _ => none }
def ArtWalksWrongFalsely : Prop := artWalksRow.holds Try.pinned (OpenSpec.ofChange artWalksWrong)

/-- 'marshallinglaw12.ArtReaders': WHATEVER THE INPUT: true; the input reads as it did. -/
def artReadersSpec : ChangeSpec := { name := "artReaders", fn := fun _ => fun
  | [d1, d2, d3, d4] => { results := [.lit (.bool true)], args := [d1, d2, d3, d4] }
  | _ => none }
def artReadersRow : OpenClaim := { program := "ytmhlokomlngdmaa", sum := "bf860bc4609798ded88259d5a3792b47bec30370f79d5a5592de2bc9c261d97d", func := "marshalling/marshallinglaw12.ArtReaders", spec := "artReaders", unfollowed := true, recurses := true, apart := false }
def ArtReadersSaid : Prop := artReadersRow.holds Try.pinned (OpenSpec.ofChange artReadersSpec)

/-- ITS FALSE NEIGHBOUR: 'it returns false'. Refute it at one input. -/
def artReadersWrong : ChangeSpec := { name := "artReaders", fn := fun _ => fun
  | [d1, d2, d3, d4] => { results := [.lit (.bool false)], args := [d1, d2, d3, d4] }
  | _ => none }
def ArtReadersWrongFalsely : Prop := artReadersRow.holds Try.pinned (OpenSpec.ofChange artReadersWrong)

/-- 'marshallinglaw12.ArtBack': WHATEVER THE INPUT: true; the input reads as it did. -/
def artBackSpec : ChangeSpec := { name := "artBack", fn := fun _ => fun
  | [d1, d2] => { results := [.lit (.bool true)], args := [d1, d2] }
  | _ => none }
def artBackRow : OpenClaim := { program := "ytmhlokomlngdmaa", sum := "bf860bc4609798ded88259d5a3792b47bec30370f79d5a5592de2bc9c261d97d", func := "marshalling/marshallinglaw12.ArtBack", spec := "artBack", unfollowed := true, recurses := true, apart := false }
def ArtBackSaid : Prop := artBackRow.holds Try.pinned (OpenSpec.ofChange artBackSpec)

/-- ITS FALSE NEIGHBOUR: 'it returns false'. Refute it at one input. -/
def artBackWrong : ChangeSpec := { name := "artBack", fn := fun _ => fun
  | [d1, d2] => { results := [.lit (.bool false)], args := [d1, d2] }
  | _ => none }
def ArtBackWrongFalsely : Prop := artBackRow.holds Try.pinned (OpenSpec.ofChange artBackWrong)

/-- 'marshallinglaw12.ArtKnown': WHATEVER THE INPUT: true; the input reads as it did. -/
def artKnownSpec : ChangeSpec := { name := "artKnown", fn := fun _ => fun
  | [] => { results := [.lit (.bool true)], args := [] }
  | _ => none }
def artKnownRow : OpenClaim := { program := "ytmhlokomlngdmaa", sum := "bf860bc4609798ded88259d5a3792b47bec30370f79d5a5592de2bc9c261d97d", func := "marshalling/marshallinglaw12.ArtKnown", spec := "artKnown", unfollowed := true, recurses := true, apart := false }
def ArtKnownSaid : Prop := artKnownRow.holds Try.pinned (OpenSpec.ofChange artKnownSpec)

/-- ITS FALSE NEIGHBOUR: 'it returns false'. Refute it at one input. -/
def artKnownWrong : ChangeSpec := { name := "artKnown", fn := fun _ => fun
  | [] => { results := [.lit (.bool false)], args := [] }
  | _ => none }
def ArtKnownWrongFalsely : Prop := artKnownRow.holds Try.pinned (OpenSpec.ofChange artKnownWrong)

/-- 'marshallinglaw12.ArtNobody': WHATEVER THE INPUT: true; the input reads as it did. -/
def artNobodySpec : ChangeSpec := { name := "artNobody", fn := fun _ => fun
  | [d1, d2] => { results := [.lit (.bool true)], args := [d1, d2] }
  | _ => none }
def artNobodyRow : OpenClaim := { program := "ytmhlokomlngdmaa", sum := "bf860bc4609798ded88259d5a3792b47bec30370f79d5a5592de2bc9c261d97d", func := "marshalling/marshallinglaw12.ArtNobody", spec := "artNobody", unfollowed := true, recurses := true, apart := false }
def ArtNobodySaid : Prop := artNobodyRow.holds Try.pinned (OpenSpec.ofChange artNobodySpec)

/-- ITS FALSE NEIGHBOUR: 'it returns false'. Refute it at one input. -/
def artNobodyWrong : ChangeSpec := { name := "artNobody", fn := fun _ => fun
  | [d1, d2] => { results := [.lit (.bool false)], args := [d1, d2] }
  | _ => none }
def ArtNobodyWrongFalsely : Prop := artNobodyRow.holds Try.pinned (OpenSpec.ofChange artNobodyWrong)

/- THE SECOND FORM. 'bulk': how many values and letters a reading holds, each counted each time it is reached (what is shared counts as often as it is met; a slice's spare places count too). A statement '..UptoSaid' is the law's where the arguments, and the package variables that the reading takes, are together of bulk at most 1048576: NARROWER than '..Said'. Prove '..Said' where nothing that the law and all that it calls make is longer than what came in: it says more and counts as full. Else prove '..UptoSaid'. A law counts once. -/
mutual
def uptoBulk {H : Type} : DataW H → Nat
  | .lit (.string bytes) => bytes.length + 1
  | .lit _ => 1
  | .nil => 1
  | .ptr d => uptoBulk d + 1
  | .slice elems spare => uptoBulkAll elems + uptoBulkAll spare + 1
  | .agg parts => uptoBulkAll parts + 1
  | .iface _ d => uptoBulk d + 1
  | .map entries => uptoBulkEntries entries + 1
  | .held _ => 1
def uptoBulkAll {H : Type} : List (DataW H) → Nat
  | [] => 0
  | d :: r => uptoBulk d + uptoBulkAll r
def uptoBulkEntries {H : Type} : List (Lit × DataW H) → Nat
  | [] => 0
  | x :: r => uptoBulkEntry x + uptoBulkEntries r
def uptoBulkEntry {H : Type} : Lit × DataW H → Nat
  | (.string bytes, d) => bytes.length + uptoBulk d + 1
  | (_, d) => uptoBulk d + 1
 end
def uptoSmall : (H : Type) → List (DataW H) → Bool := fun _ ds => decide (uptoBulkAll ds ≤ 1048576)
def OpenSpec.upto (s : _root_.Go.ChangeSpec) : _root_.Go.OpenSpec := { _root_.Go.OpenSpec.ofChange s with cond := some uptoSmall }

/-- 'marshallinglaw12.ArtWalks', WHERE WHAT IT READS IS OF BULK AT MOST 1048576: true; the input reads as it did. -/
def artWalksUptoRow : OpenClaim := { program := "ytmhlokomlngdmaa", sum := "bf860bc4609798ded88259d5a3792b47bec30370f79d5a5592de2bc9c261d97d", func := "marshalling/marshallinglaw12.ArtWalks", spec := "artWalks", unfollowed := true, recurses := true, apart := false, narrowed := true }
def ArtWalksUptoSaid : Prop := artWalksUptoRow.holds Try.pinned (OpenSpec.upto artWalksSpec)

/-- 'marshallinglaw12.ArtReaders', WHERE WHAT IT READS IS OF BULK AT MOST 1048576: true; the input reads as it did. -/
def artReadersUptoRow : OpenClaim := { program := "ytmhlokomlngdmaa", sum := "bf860bc4609798ded88259d5a3792b47bec30370f79d5a5592de2bc9c261d97d", func := "marshalling/marshallinglaw12.ArtReaders", spec := "artReaders", unfollowed := true, recurses := true, apart := false, narrowed := true }
def ArtReadersUptoSaid : Prop := artReadersUptoRow.holds Try.pinned (OpenSpec.upto artReadersSpec)

/-- 'marshallinglaw12.ArtBack', WHERE WHAT IT READS IS OF BULK AT MOST 1048576: true; the input reads as it did. -/
def artBackUptoRow : OpenClaim := { program := "ytmhlokomlngdmaa", sum := "bf860bc4609798ded88259d5a3792b47bec30370f79d5a5592de2bc9c261d97d", func := "marshalling/marshallinglaw12.ArtBack", spec := "artBack", unfollowed := true, recurses := true, apart := false, narrowed := true }
def ArtBackUptoSaid : Prop := artBackUptoRow.holds Try.pinned (OpenSpec.upto artBackSpec)

/-- 'marshallinglaw12.ArtKnown', WHERE WHAT IT READS IS OF BULK AT MOST 1048576: true; the input reads as it did. -/
def artKnownUptoRow : OpenClaim := { program := "ytmhlokomlngdmaa", sum := "bf860bc4609798ded88259d5a3792b47bec30370f79d5a5592de2bc9c261d97d", func := "marshalling/marshallinglaw12.ArtKnown", spec := "artKnown", unfollowed := true, recurses := true, apart := false, narrowed := true }
def ArtKnownUptoSaid : Prop := artKnownUptoRow.holds Try.pinned (OpenSpec.upto artKnownSpec)

/-- 'marshallinglaw12.ArtNobody', WHERE WHAT IT READS IS OF BULK AT MOST 1048576: true; the input reads as it did. -/
def artNobodyUptoRow : OpenClaim := { program := "ytmhlokomlngdmaa", sum := "bf860bc4609798ded88259d5a3792b47bec30370f79d5a5592de2bc9c261d97d", func := "marshalling/marshallinglaw12.ArtNobody", spec := "artNobody", unfollowed := true, recurses := true, apart := false, narrowed := true }
def ArtNobodyUptoSaid : Prop := artNobodyUptoRow.holds Try.pinned (OpenSpec.upto artNobodySpec)

end Rows
end Go.Proofs.Ytmhlokomlngdmaa
