/-
  No cell of these rows narrows 'for every input' (looked for: loops, veiled, ifaces, maps, wideKeys, modest, calm, conditions, laid).
  DERIVED. THE GIVEN ROWS OF THIS SEAT. 7 by the template 'for every input the law returns true; each argument reads behind the call as it read before'; 0 by the template 'total and deterministic' (their statements: YtbdealmkmpnpoaaGreatTotals.lean).
  GIVEN WITH THE SEED: the statements are not yours to turn. If you find one false, say at which input.
  Laid BY PROGRAM, IN A SANDBOX (cutbox-rows.mjs): the forced cells as the released guide's own fill.sh prints them over the translation 127327122b62ab4c… (all of the seat's roots in one cut). By AI agents, Wed Nov 11 2026. No macro, syntax, notation, axiom, sorry.
-/
import Derived.Test.YtbdealmkmpnpoaaGreatChecked
import GoSem.Claim
import GoSem.ClaimJoined
import GoSem.ClaimMapViews
import Derived.JoinedTies
import Derived.KernelRfl
namespace Go.Proofs.YtbdealmkmpnpoaaGreat
/- THE CELL 'sum', in the pinned program and in every row, IS THE sha256 OF THE DUMP (.gsa) THAT YtbdealmkmpnpoaaGreatProg.lean LOADS. Nothing in Lean hashes anything: it is a label: what it is worth is what the hold of that sum in a sandbox is worth. -/
noncomputable def Tryz.pinned : Pinned := { name := "ytbdealmkmpnpoaagreat", sum := "127327122b62ab4cc91c323f0f0988d746c06977aa3d916fdca38452cfa0f311", checked := Tryz.checked }
namespace Rows
def none {H : Type} : Left H := { results := [], args := [] }

/-- 'marshallinglaw15.MasstreeReaders': WHATEVER THE INPUT: true; the input reads as it did. -/
def masstreeReadersSpec : ChangeSpec := { name := "masstreeReaders", fn := fun _ => fun
  | [d1, d2, d3, d4, d5] => { results := [.lit (.bool true)], args := [d1, d2, d3, d4, d5] }
  | _ => none }
def masstreeReadersRow : OpenClaim := { program := "ytbdealmkmpnpoaagreat", sum := "127327122b62ab4cc91c323f0f0988d746c06977aa3d916fdca38452cfa0f311", func := "marshalling/marshallinglaw15.MasstreeReaders", spec := "masstreeReaders", inPlace := ["internal/bytealg.abigen_runtime_cmpstring", "slices.overlaps[string]", "slices.overlaps[marshalling/api.Handle]"], unfollowed := true, recurses := true, apart := false }
def MasstreeReadersSaid : Prop := masstreeReadersRow.holds Tryz.pinned (OpenSpec.ofChange masstreeReadersSpec)

/-- ITS FALSE NEIGHBOUR: 'it returns false'. Refute it at one input. -/
def masstreeReadersWrong : ChangeSpec := { name := "masstreeReaders", fn := fun _ => fun
  | [d1, d2, d3, d4, d5] => { results := [.lit (.bool false)], args := [d1, d2, d3, d4, d5] }
  | _ => none }
def MasstreeReadersWrongFalsely : Prop := masstreeReadersRow.holds Tryz.pinned (OpenSpec.ofChange masstreeReadersWrong)

/-- 'marshallinglaw15.MasstreeKeeps': WHATEVER THE INPUT: true; the input reads as it did. -/
def masstreeKeepsSpec : ChangeSpec := { name := "masstreeKeeps", fn := fun _ => fun
  | [d] => { results := [.lit (.bool true)], args := [d] }
  | _ => none }
def masstreeKeepsRow : OpenClaim := { program := "ytbdealmkmpnpoaagreat", sum := "127327122b62ab4cc91c323f0f0988d746c06977aa3d916fdca38452cfa0f311", func := "marshalling/marshallinglaw15.MasstreeKeeps", spec := "masstreeKeeps", inPlace := ["internal/bytealg.abigen_runtime_cmpstring", "slices.overlaps[string]", "slices.overlaps[marshalling/api.Handle]"], unfollowed := true, recurses := true, apart := false }
def MasstreeKeepsSaid : Prop := masstreeKeepsRow.holds Tryz.pinned (OpenSpec.ofChange masstreeKeepsSpec)

/-- ITS FALSE NEIGHBOUR: 'it returns false'. Refute it at one input. -/
def masstreeKeepsWrong : ChangeSpec := { name := "masstreeKeeps", fn := fun _ => fun
  | [d] => { results := [.lit (.bool false)], args := [d] }
  | _ => none }
def MasstreeKeepsWrongFalsely : Prop := masstreeKeepsRow.holds Tryz.pinned (OpenSpec.ofChange masstreeKeepsWrong)

/-- 'marshallinglaw15.MasstreeAlike': WHATEVER THE INPUT: true; the input reads as it did. -/
def masstreeAlikeSpec : ChangeSpec := { name := "masstreeAlike", fn := fun _ => fun
  | [d1, d2, d3] => { results := [.lit (.bool true)], args := [d1, d2, d3] }
  | _ => none }
def masstreeAlikeRow : OpenClaim := { program := "ytbdealmkmpnpoaagreat", sum := "127327122b62ab4cc91c323f0f0988d746c06977aa3d916fdca38452cfa0f311", func := "marshalling/marshallinglaw15.MasstreeAlike", spec := "masstreeAlike", inPlace := ["internal/bytealg.abigen_runtime_cmpstring", "slices.overlaps[string]", "slices.overlaps[marshalling/api.Handle]"], unfollowed := true, recurses := true, apart := false }
def MasstreeAlikeSaid : Prop := masstreeAlikeRow.holds Tryz.pinned (OpenSpec.ofChange masstreeAlikeSpec)

/-- ITS FALSE NEIGHBOUR: 'it returns false'. Refute it at one input. -/
def masstreeAlikeWrong : ChangeSpec := { name := "masstreeAlike", fn := fun _ => fun
  | [d1, d2, d3] => { results := [.lit (.bool false)], args := [d1, d2, d3] }
  | _ => none }
def MasstreeAlikeWrongFalsely : Prop := masstreeAlikeRow.holds Tryz.pinned (OpenSpec.ofChange masstreeAlikeWrong)

/-- 'marshallinglaw15.MasstreeBlink': WHATEVER THE INPUT: true; the input reads as it did. -/
def masstreeBlinkSpec : ChangeSpec := { name := "masstreeBlink", fn := fun _ => fun
  | [d] => { results := [.lit (.bool true)], args := [d] }
  | _ => none }
def masstreeBlinkRow : OpenClaim := { program := "ytbdealmkmpnpoaagreat", sum := "127327122b62ab4cc91c323f0f0988d746c06977aa3d916fdca38452cfa0f311", func := "marshalling/marshallinglaw15.MasstreeBlink", spec := "masstreeBlink", inPlace := ["internal/bytealg.abigen_runtime_cmpstring", "slices.overlaps[string]", "slices.overlaps[marshalling/api.Handle]"], unfollowed := true, recurses := true, apart := false }
def MasstreeBlinkSaid : Prop := masstreeBlinkRow.holds Tryz.pinned (OpenSpec.ofChange masstreeBlinkSpec)

/-- ITS FALSE NEIGHBOUR: 'it returns false'. Refute it at one input. -/
def masstreeBlinkWrong : ChangeSpec := { name := "masstreeBlink", fn := fun _ => fun
  | [d] => { results := [.lit (.bool false)], args := [d] }
  | _ => none }
def MasstreeBlinkWrongFalsely : Prop := masstreeBlinkRow.holds Tryz.pinned (OpenSpec.ofChange masstreeBlinkWrong)

/-- 'marshallinglaw15.MasstreeKnown': WHATEVER THE INPUT: true; the input reads as it did. -/
def masstreeKnownSpec : ChangeSpec := { name := "masstreeKnown", fn := fun _ => fun
  | [] => { results := [.lit (.bool true)], args := [] }
  | _ => none }
def masstreeKnownRow : OpenClaim := { program := "ytbdealmkmpnpoaagreat", sum := "127327122b62ab4cc91c323f0f0988d746c06977aa3d916fdca38452cfa0f311", func := "marshalling/marshallinglaw15.MasstreeKnown", spec := "masstreeKnown", inPlace := ["internal/bytealg.abigen_runtime_cmpstring", "slices.overlaps[string]", "slices.overlaps[marshalling/api.Handle]"], unfollowed := true, recurses := true, apart := false }
def MasstreeKnownSaid : Prop := masstreeKnownRow.holds Tryz.pinned (OpenSpec.ofChange masstreeKnownSpec)

/-- ITS FALSE NEIGHBOUR: 'it returns false'. Refute it at one input. -/
def masstreeKnownWrong : ChangeSpec := { name := "masstreeKnown", fn := fun _ => fun
  | [] => { results := [.lit (.bool false)], args := [] }
  | _ => none }
def MasstreeKnownWrongFalsely : Prop := masstreeKnownRow.holds Tryz.pinned (OpenSpec.ofChange masstreeKnownWrong)

/-- 'marshallinglaw15.MasstreePlays': WHATEVER THE INPUT: true; the input reads as it did. -/
def masstreePlaysSpec : ChangeSpec := { name := "masstreePlays", fn := fun _ => fun
  | [d1, d2] => { results := [.lit (.bool true)], args := [d1, d2] }
  | _ => none }
def masstreePlaysRow : OpenClaim := { program := "ytbdealmkmpnpoaagreat", sum := "127327122b62ab4cc91c323f0f0988d746c06977aa3d916fdca38452cfa0f311", func := "marshalling/marshallinglaw15.MasstreePlays", spec := "masstreePlays", inPlace := ["internal/bytealg.abigen_runtime_cmpstring", "slices.overlaps[string]", "slices.overlaps[marshalling/api.Handle]"], unfollowed := true, recurses := true, apart := false }
def MasstreePlaysSaid : Prop := masstreePlaysRow.holds Tryz.pinned (OpenSpec.ofChange masstreePlaysSpec)

/-- ITS FALSE NEIGHBOUR: 'it returns false'. Refute it at one input. -/
def masstreePlaysWrong : ChangeSpec := { name := "masstreePlays", fn := fun _ => fun
  | [d1, d2] => { results := [.lit (.bool false)], args := [d1, d2] }
  | _ => none }
def MasstreePlaysWrongFalsely : Prop := masstreePlaysRow.holds Tryz.pinned (OpenSpec.ofChange masstreePlaysWrong)

/-- 'marshallinglaw15.MasstreeFree': WHATEVER THE INPUT: true; the input reads as it did. -/
def masstreeFreeSpec : ChangeSpec := { name := "masstreeFree", fn := fun _ => fun
  | [d1, d2] => { results := [.lit (.bool true)], args := [d1, d2] }
  | _ => none }
def masstreeFreeRow : OpenClaim := { program := "ytbdealmkmpnpoaagreat", sum := "127327122b62ab4cc91c323f0f0988d746c06977aa3d916fdca38452cfa0f311", func := "marshalling/marshallinglaw15.MasstreeFree", spec := "masstreeFree", inPlace := ["internal/bytealg.abigen_runtime_cmpstring", "slices.overlaps[string]", "slices.overlaps[marshalling/api.Handle]"], unfollowed := true, recurses := true, apart := false }
def MasstreeFreeSaid : Prop := masstreeFreeRow.holds Tryz.pinned (OpenSpec.ofChange masstreeFreeSpec)

/-- ITS FALSE NEIGHBOUR: 'it returns false'. Refute it at one input. -/
def masstreeFreeWrong : ChangeSpec := { name := "masstreeFree", fn := fun _ => fun
  | [d1, d2] => { results := [.lit (.bool false)], args := [d1, d2] }
  | _ => none }
def MasstreeFreeWrongFalsely : Prop := masstreeFreeRow.holds Tryz.pinned (OpenSpec.ofChange masstreeFreeWrong)

/- THE SECOND FORM. 'bulk': how many values and letters a reading holds, each counted each time it is reached (what is shared counts as often as it is met; a slice's spare places count too). A statement '..UptoSaid' is the law's where the arguments, and the package variables that the reading takes, are together of bulk at most 1048576: NARROWER than '..Said'. Prove '..Said' where nothing that the law and all that it calls make is longer than what came in: it says more and counts as full. Else prove '..UptoSaid'. A law counts once. -/
mutual
def uptoBulk {H : Type} : DataW H → Nat
  | .lit (.string bytes) => bytes.length + 1
  | .lit _ => 1
  | .nil => 1
  | .ptr d => uptoBulk d + 1
  | .slice elems spare => uptoBulkAll elems + uptoBulkAll spare + 1
  | .agg parts => uptoBulkAll parts + 1
  | .iface _ d => uptoBulk d + 1
  | .map entries => uptoBulkEntries entries + 1
  | .held _ => 1
def uptoBulkAll {H : Type} : List (DataW H) → Nat
  | [] => 0
  | d :: r => uptoBulk d + uptoBulkAll r
def uptoBulkEntries {H : Type} : List (Lit × DataW H) → Nat
  | [] => 0
  | x :: r => uptoBulkEntry x + uptoBulkEntries r
def uptoBulkEntry {H : Type} : Lit × DataW H → Nat
  | (.string bytes, d) => bytes.length + uptoBulk d + 1
  | (_, d) => uptoBulk d + 1
 end
def uptoSmall : (H : Type) → List (DataW H) → Bool := fun _ ds => decide (uptoBulkAll ds ≤ 1048576)
def OpenSpec.upto (s : _root_.Go.ChangeSpec) : _root_.Go.OpenSpec := { _root_.Go.OpenSpec.ofChange s with cond := some uptoSmall }

/-- 'marshallinglaw15.MasstreeReaders', WHERE WHAT IT READS IS OF BULK AT MOST 1048576: true; the input reads as it did. -/
def masstreeReadersUptoRow : OpenClaim := { program := "ytbdealmkmpnpoaagreat", sum := "127327122b62ab4cc91c323f0f0988d746c06977aa3d916fdca38452cfa0f311", func := "marshalling/marshallinglaw15.MasstreeReaders", spec := "masstreeReaders", inPlace := ["internal/bytealg.abigen_runtime_cmpstring", "slices.overlaps[string]", "slices.overlaps[marshalling/api.Handle]"], unfollowed := true, recurses := true, apart := false, narrowed := true }
def MasstreeReadersUptoSaid : Prop := masstreeReadersUptoRow.holds Tryz.pinned (OpenSpec.upto masstreeReadersSpec)

/-- 'marshallinglaw15.MasstreeKeeps', WHERE WHAT IT READS IS OF BULK AT MOST 1048576: true; the input reads as it did. -/
def masstreeKeepsUptoRow : OpenClaim := { program := "ytbdealmkmpnpoaagreat", sum := "127327122b62ab4cc91c323f0f0988d746c06977aa3d916fdca38452cfa0f311", func := "marshalling/marshallinglaw15.MasstreeKeeps", spec := "masstreeKeeps", inPlace := ["internal/bytealg.abigen_runtime_cmpstring", "slices.overlaps[string]", "slices.overlaps[marshalling/api.Handle]"], unfollowed := true, recurses := true, apart := false, narrowed := true }
def MasstreeKeepsUptoSaid : Prop := masstreeKeepsUptoRow.holds Tryz.pinned (OpenSpec.upto masstreeKeepsSpec)

/-- 'marshallinglaw15.MasstreeAlike', WHERE WHAT IT READS IS OF BULK AT MOST 1048576: true; the input reads as it did. -/
def masstreeAlikeUptoRow : OpenClaim := { program := "ytbdealmkmpnpoaagreat", sum := "127327122b62ab4cc91c323f0f0988d746c06977aa3d916fdca38452cfa0f311", func := "marshalling/marshallinglaw15.MasstreeAlike", spec := "masstreeAlike", inPlace := ["internal/bytealg.abigen_runtime_cmpstring", "slices.overlaps[string]", "slices.overlaps[marshalling/api.Handle]"], unfollowed := true, recurses := true, apart := false, narrowed := true }
def MasstreeAlikeUptoSaid : Prop := masstreeAlikeUptoRow.holds Tryz.pinned (OpenSpec.upto masstreeAlikeSpec)

/-- 'marshallinglaw15.MasstreeBlink', WHERE WHAT IT READS IS OF BULK AT MOST 1048576: true; the input reads as it did. -/
def masstreeBlinkUptoRow : OpenClaim := { program := "ytbdealmkmpnpoaagreat", sum := "127327122b62ab4cc91c323f0f0988d746c06977aa3d916fdca38452cfa0f311", func := "marshalling/marshallinglaw15.MasstreeBlink", spec := "masstreeBlink", inPlace := ["internal/bytealg.abigen_runtime_cmpstring", "slices.overlaps[string]", "slices.overlaps[marshalling/api.Handle]"], unfollowed := true, recurses := true, apart := false, narrowed := true }
def MasstreeBlinkUptoSaid : Prop := masstreeBlinkUptoRow.holds Tryz.pinned (OpenSpec.upto masstreeBlinkSpec)

/-- 'marshallinglaw15.MasstreeKnown', WHERE WHAT IT READS IS OF BULK AT MOST 1048576: true; the input reads as it did. -/
def masstreeKnownUptoRow : OpenClaim := { program := "ytbdealmkmpnpoaagreat", sum := "127327122b62ab4cc91c323f0f0988d746c06977aa3d916fdca38452cfa0f311", func := "marshalling/marshallinglaw15.MasstreeKnown", spec := "masstreeKnown", inPlace := ["internal/bytealg.abigen_runtime_cmpstring", "slices.overlaps[string]", "slices.overlaps[marshalling/api.Handle]"], unfollowed := true, recurses := true, apart := false, narrowed := true }
def MasstreeKnownUptoSaid : Prop := masstreeKnownUptoRow.holds Tryz.pinned (OpenSpec.upto masstreeKnownSpec)

/-- 'marshallinglaw15.MasstreePlays', WHERE WHAT IT READS IS OF BULK AT MOST 1048576: true; the input reads as it did. -/
def masstreePlaysUptoRow : OpenClaim := { program := "ytbdealmkmpnpoaagreat", sum := "127327122b62ab4cc91c323f0f0988d746c06977aa3d916fdca38452cfa0f311", func := "marshalling/marshallinglaw15.MasstreePlays", spec := "masstreePlays", inPlace := ["internal/bytealg.abigen_runtime_cmpstring", "slices.overlaps[string]", "slices.overlaps[marshalling/api.Handle]"], unfollowed := true, recurses := true, apart := false, narrowed := true }
def MasstreePlaysUptoSaid : Prop := masstreePlaysUptoRow.holds Tryz.pinned (OpenSpec.upto masstreePlaysSpec)

/-- 'marshallinglaw15.MasstreeFree', WHERE WHAT IT READS IS OF BULK AT MOST 1048576: true; the input reads as it did. -/
def masstreeFreeUptoRow : OpenClaim := { program := "ytbdealmkmpnpoaagreat", sum := "127327122b62ab4cc91c323f0f0988d746c06977aa3d916fdca38452cfa0f311", func := "marshalling/marshallinglaw15.MasstreeFree", spec := "masstreeFree", inPlace := ["internal/bytealg.abigen_runtime_cmpstring", "slices.overlaps[string]", "slices.overlaps[marshalling/api.Handle]"], unfollowed := true, recurses := true, apart := false, narrowed := true }
def MasstreeFreeUptoSaid : Prop := masstreeFreeUptoRow.holds Tryz.pinned (OpenSpec.upto masstreeFreeSpec)

end Rows
end Go.Proofs.YtbdealmkmpnpoaaGreat
