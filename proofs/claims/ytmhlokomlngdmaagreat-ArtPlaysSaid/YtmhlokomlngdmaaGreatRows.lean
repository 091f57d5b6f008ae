/-
  No cell of these rows narrows 'for every input' (looked for: loops, veiled, ifaces, maps, wideKeys, modest, calm, conditions, laid).
  DERIVED. THE GIVEN ROWS OF THIS SEAT. 2 by the template 'for every input the law returns true; each argument reads behind the call as it read before'; 0 by the template 'total and deterministic' (their statements: YtmhlokomlngdmaaGreatTotals.lean).
  GIVEN WITH THE SEED: the statements are not yours to turn. If you find one false, say at which input.
  Laid BY PROGRAM, IN A SANDBOX (cutbox-rows.mjs): the forced cells as the released guide's own fill.sh prints them over the translation c937d5734b207ca8… (all of the seat's roots in one cut). By AI agents, Wed Nov 11 2026. No macro, syntax, notation, axiom, sorry.
-/
import Derived.Test.YtmhlokomlngdmaaGreatChecked
import GoSem.Claim
import GoSem.ClaimJoined
import GoSem.ClaimMapViews
import Derived.JoinedTies
import Derived.KernelRfl
namespace Go.Proofs.YtmhlokomlngdmaaGreat
/- THE CELL 'sum', in the pinned program and in every row, IS THE sha256 OF THE DUMP (.gsa) THAT YtmhlokomlngdmaaGreatProg.lean LOADS. Nothing in Lean hashes anything: it is a label: what it is worth is what the hold of that sum in a sandbox is worth. -/
noncomputable def Tryz.pinned : Pinned := { name := "ytmhlokomlngdmaagreat", sum := "c937d5734b207ca8ea608553690a17ea7dae8249addf12ce8e7acf0fb60f1ee8", checked := Tryz.checked }
namespace Rows
def none {H : Type} : Left H := { results := [], args := [] }

/-- 'marshallinglaw12.ArtPlays': WHATEVER THE INPUT: true; the input reads as it did. -/
def artPlaysSpec : ChangeSpec := { name := "artPlays", fn := fun _ => fun
  | [d1, d2] => { results := [.lit (.bool true)], args := [d1, d2] }
  | _ => none }
def artPlaysRow : OpenClaim := { program := "ytmhlokomlngdmaagreat", sum := "c937d5734b207ca8ea608553690a17ea7dae8249addf12ce8e7acf0fb60f1ee8", func := "marshalling/marshallinglaw12.ArtPlays", spec := "artPlays", unfollowed := true, recurses := true, apart := false }
def ArtPlaysSaid : Prop := artPlaysRow.holds Tryz.pinned (OpenSpec.ofChange artPlaysSpec)

/-- ITS FALSE NEIGHBOUR: 'it returns false'. Refute it at one input. -/
def artPlaysWrong : ChangeSpec := { name := "artPlays", fn := fun _ => fun
  | [d1, d2] => { results := [.lit (.bool false)], args := [d1, d2] }
  | _ => none }
def ArtPlaysWrongFalsely : Prop := artPlaysRow.holds Tryz.pinned (OpenSpec.ofChange artPlaysWrong)

/-- 'marshallinglaw12.ArtAlike': WHATEVER THE INPUT: true; the input reads as it did. -/
def artAlikeSpec : ChangeSpec := { name := "artAlike", fn := fun _ => fun
  | [d] => { results := [.lit (.bool true)], args := [d] }
  | _ => none }
def artAlikeRow : OpenClaim := { program := "ytmhlokomlngdmaagreat", sum := "c937d5734b207ca8ea608553690a17ea7dae8249addf12ce8e7acf0fb60f1ee8", func := "marshalling/marshallinglaw12.ArtAlike", spec := "artAlike", unfollowed := true, recurses := true, apart := false }
def ArtAlikeSaid : Prop := artAlikeRow.holds Tryz.pinned (OpenSpec.ofChange artAlikeSpec)

/-- ITS FALSE NEIGHBOUR: 'it returns false'. Refute it at one input. -/
def artAlikeWrong : ChangeSpec := { name := "artAlike", fn := fun _ => fun
  | [d] => { results := [.lit (.bool false)], args := [d] }
  | _ => none }
def ArtAlikeWrongFalsely : Prop := artAlikeRow.holds Tryz.pinned (OpenSpec.ofChange artAlikeWrong)

/- THE SECOND FORM. 'bulk': how many values and letters a reading holds, each counted each time it is reached (what is shared counts as often as it is met; a slice's spare places count too). A statement '..UptoSaid' is the law's where the arguments, and the package variables that the reading takes, are together of bulk at most 1048576: NARROWER than '..Said'. Prove '..Said' where nothing that the law and all that it calls make is longer than what came in: it says more and counts as full. Else prove '..UptoSaid'. A law counts once. -/
mutual
def uptoBulk {H : Type} : DataW H → Nat
  | .lit (.string bytes) => bytes.length + 1
  | .lit _ => 1
  | .nil => 1
  | .ptr d => uptoBulk d + 1
  | .slice elems spare => uptoBulkAll elems + uptoBulkAll spare + 1
  | .agg parts => uptoBulkAll parts + 1
  | .iface _ d => uptoBulk d + 1
  | .map entries => uptoBulkEntries entries + 1
  | .held _ => 1
def uptoBulkAll {H : Type} : List (DataW H) → Nat
  | [] => 0
  | d :: r => uptoBulk d + uptoBulkAll r
def uptoBulkEntries {H : Type} : List (Lit × DataW H) → Nat
  | [] => 0
  | x :: r => uptoBulkEntry x + uptoBulkEntries r
def uptoBulkEntry {H : Type} : Lit × DataW H → Nat
  | (.string bytes, d) => bytes.length + uptoBulk d + 1
  | (_, d) => uptoBulk d + 1
 end
def uptoSmall : (H : Type) → List (DataW H) → Bool := fun _ ds => decide (uptoBulkAll ds ≤ 1048576)
def OpenSpec.upto (s : _root_.Go.ChangeSpec) : _root_.Go.OpenSpec := { _root_.Go.OpenSpec.ofChange s with cond := some uptoSmall }

/-- 'marshallinglaw12.ArtPlays', WHERE WHAT IT READS IS OF BULK AT MOST 1048576: true; the input reads as it did. -/
def artPlaysUptoRow : OpenClaim := { program := "ytmhlokomlngdmaagreat", sum := "c937d5734b207ca8ea608553690a17ea7dae8249addf12ce8e7acf0fb60f1ee8", func := "marshalling/marshallinglaw12.ArtPlays", spec := "artPlays", unfollowed := true, recurses := true, apart := false, narrowed := true }
def ArtPlaysUptoSaid : Prop := artPlaysUptoRow.holds Tryz.pinned (OpenSpec.upto artPlaysSpec)

/-- 'marshallinglaw12.ArtAlike', WHERE WHAT IT READS IS OF BULK AT MOST 1048576: true; the input reads as it did. -/
def artAlikeUptoRow : OpenClaim := { program := "ytmhlokomlngdmaagreat", sum := "c937d5734b207ca8ea608553690a17ea7dae8249addf12ce8e7acf0fb60f1ee8", func := "marshalling/marshallinglaw12.ArtAlike", spec := "artAlike", unfollowed := true, recurses := true, apart := false, narrowed := true }
def ArtAlikeUptoSaid : Prop := artAlikeUptoRow.holds Tryz.pinned (OpenSpec.upto artAlikeSpec)

end Rows
end Go.Proofs.YtmhlokomlngdmaaGreat
