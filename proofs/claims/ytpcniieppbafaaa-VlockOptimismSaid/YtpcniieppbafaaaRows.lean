/-
  No cell of these rows narrows 'for every input' (looked for: loops, veiled, ifaces, maps, wideKeys, modest, calm, conditions, laid).
  DERIVED. THE GIVEN ROWS OF THIS SEAT. 6 by the template 'for every input the law returns true; each argument reads behind the call as it read before'; 0 by the template 'total and deterministic' (their statements: YtpcniieppbafaaaTotals.lean).
  GIVEN WITH THE SEED: the statements are not yours to turn. If you find one false, say at which input.
  Laid BY PROGRAM, IN A SANDBOX (cutbox-rows.mjs): the forced cells as the released guide's own fill.sh prints them over the translation 6f17b491f1616825… (all of the seat's roots in one cut). By AI agents, Wed Nov 11 2026. No macro, syntax, notation, axiom, sorry.
-/
import Derived.Test.YtpcniieppbafaaaChecked
import GoSem.Claim
import GoSem.ClaimJoined
import GoSem.ClaimMapViews
import Derived.JoinedTies
import Derived.KernelRfl
namespace Go.Proofs.Ytpcniieppbafaaa
/- THE CELL 'sum', in the pinned program and in every row, IS THE sha256 OF THE DUMP (.gsa) THAT YtpcniieppbafaaaProg.lean LOADS. Nothing in Lean hashes anything: it is a label: what it is worth is what the hold of that sum in a sandbox is worth. -/
noncomputable def Try.pinned : Pinned := { name := "ytpcniieppbafaaa", sum := "6f17b491f1616825d35b6630c356527e9fbb4d12fe9f05d7ed848af5a45f17b7", checked := Try.checked }
namespace Rows
def none {H : Type} : Left H := { results := [], args := [] }

/-- 'marshallinglaw03.VlockPlays': WHATEVER THE INPUT: true; the input reads as it did. -/
def vlockPlaysSpec : ChangeSpec := { name := "vlockPlays", fn := fun _ => fun
  | [d1, d2] => { results := [.lit (.bool true)], args := [d1, d2] }
  | _ => none }
def vlockPlaysRow : OpenClaim := { program := "ytpcniieppbafaaa", sum := "6f17b491f1616825d35b6630c356527e9fbb4d12fe9f05d7ed848af5a45f17b7", func := "marshalling/marshallinglaw03.VlockPlays", spec := "vlockPlays", inPlace := ["sync/atomic.LoadUint64", "sync/atomic.CompareAndSwapUint64", "sync/atomic.StoreUint64"], unfollowed := true, recurses := true, apart := false }
def VlockPlaysSaid : Prop := vlockPlaysRow.holds Try.pinned (OpenSpec.ofChange vlockPlaysSpec)

/-- ITS FALSE NEIGHBOUR: 'it returns false'. Refute it at one input. -/
def vlockPlaysWrong : ChangeSpec := { name := "vlockPlays", fn := fun _ => fun
  | [d1, d2] => { results := [.lit (.bool false)], args := [d1, d2] }
  | _ => none }
def VlockPlaysWrongFalsely : Prop := vlockPlaysRow.holds Try.pinned (OpenSpec.ofChange vlockPlaysWrong)

/-- 'marshallinglaw03.VlockKnown': WHATEVER THE INPUT: true; the input reads as it did. -/
def vlockKnownSpec : ChangeSpec := { name := "vlockKnown", fn := fun _ => fun
  | [] => { results := [.lit (.bool true)], args := [] }
  | _ => none }
def vlockKnownRow : OpenClaim := { program := "ytpcniieppbafaaa", sum := "6f17b491f1616825d35b6630c356527e9fbb4d12fe9f05d7ed848af5a45f17b7", func := "marshalling/marshallinglaw03.VlockKnown", spec := "vlockKnown", inPlace := ["sync/atomic.LoadUint64", "sync/atomic.CompareAndSwapUint64"], unfollowed := true, recurses := true, apart := false }
def VlockKnownSaid : Prop := vlockKnownRow.holds Try.pinned (OpenSpec.ofChange vlockKnownSpec)

/-- ITS FALSE NEIGHBOUR: 'it returns false'. Refute it at one input. -/
def vlockKnownWrong : ChangeSpec := { name := "vlockKnown", fn := fun _ => fun
  | [] => { results := [.lit (.bool false)], args := [] }
  | _ => none }
def VlockKnownWrongFalsely : Prop := vlockKnownRow.holds Try.pinned (OpenSpec.ofChange vlockKnownWrong)

/-- 'marshallinglaw03.VlockWords': WHATEVER THE INPUT: true; the input reads as it did. -/
def vlockWordsSpec : ChangeSpec := { name := "vlockWords", fn := fun _ => fun
  | [d1, d2] => { results := [.lit (.bool true)], args := [d1, d2] }
  | _ => none }
def vlockWordsRow : OpenClaim := { program := "ytpcniieppbafaaa", sum := "6f17b491f1616825d35b6630c356527e9fbb4d12fe9f05d7ed848af5a45f17b7", func := "marshalling/marshallinglaw03.VlockWords", spec := "vlockWords", inPlace := ["sync/atomic.LoadUint64", "sync/atomic.CompareAndSwapUint64"], unfollowed := true, recurses := true, apart := false }
def VlockWordsSaid : Prop := vlockWordsRow.holds Try.pinned (OpenSpec.ofChange vlockWordsSpec)

/-- ITS FALSE NEIGHBOUR: 'it returns false'. Refute it at one input. -/
def vlockWordsWrong : ChangeSpec := { name := "vlockWords", fn := fun _ => fun
  | [d1, d2] => { results := [.lit (.bool false)], args := [d1, d2] }
  | _ => none }
def VlockWordsWrongFalsely : Prop := vlockWordsRow.holds Try.pinned (OpenSpec.ofChange vlockWordsWrong)

/-- 'marshallinglaw03.VlockDead': WHATEVER THE INPUT: true; the input reads as it did. -/
def vlockDeadSpec : ChangeSpec := { name := "vlockDead", fn := fun _ => fun
  | [d1, d2, d3] => { results := [.lit (.bool true)], args := [d1, d2, d3] }
  | _ => none }
def vlockDeadRow : OpenClaim := { program := "ytpcniieppbafaaa", sum := "6f17b491f1616825d35b6630c356527e9fbb4d12fe9f05d7ed848af5a45f17b7", func := "marshalling/marshallinglaw03.VlockDead", spec := "vlockDead", inPlace := ["sync/atomic.LoadUint64", "sync/atomic.CompareAndSwapUint64", "sync/atomic.StoreUint64"], unfollowed := true, recurses := true, apart := false }
def VlockDeadSaid : Prop := vlockDeadRow.holds Try.pinned (OpenSpec.ofChange vlockDeadSpec)

/-- ITS FALSE NEIGHBOUR: 'it returns false'. Refute it at one input. -/
def vlockDeadWrong : ChangeSpec := { name := "vlockDead", fn := fun _ => fun
  | [d1, d2, d3] => { results := [.lit (.bool false)], args := [d1, d2, d3] }
  | _ => none }
def VlockDeadWrongFalsely : Prop := vlockDeadRow.holds Try.pinned (OpenSpec.ofChange vlockDeadWrong)

/-- 'marshallinglaw03.VlockAlone': WHATEVER THE INPUT: true; the input reads as it did. -/
def vlockAloneSpec : ChangeSpec := { name := "vlockAlone", fn := fun _ => fun
  | [d1, d2] => { results := [.lit (.bool true)], args := [d1, d2] }
  | _ => none }
def vlockAloneRow : OpenClaim := { program := "ytpcniieppbafaaa", sum := "6f17b491f1616825d35b6630c356527e9fbb4d12fe9f05d7ed848af5a45f17b7", func := "marshalling/marshallinglaw03.VlockAlone", spec := "vlockAlone", inPlace := ["sync/atomic.LoadUint64", "sync/atomic.CompareAndSwapUint64", "sync/atomic.StoreUint64"], unfollowed := true, recurses := true, apart := false }
def VlockAloneSaid : Prop := vlockAloneRow.holds Try.pinned (OpenSpec.ofChange vlockAloneSpec)

/-- ITS FALSE NEIGHBOUR: 'it returns false'. Refute it at one input. -/
def vlockAloneWrong : ChangeSpec := { name := "vlockAlone", fn := fun _ => fun
  | [d1, d2] => { results := [.lit (.bool false)], args := [d1, d2] }
  | _ => none }
def VlockAloneWrongFalsely : Prop := vlockAloneRow.holds Try.pinned (OpenSpec.ofChange vlockAloneWrong)

/-- 'marshallinglaw03.VlockOptimism': WHATEVER THE INPUT: true; the input reads as it did. -/
def vlockOptimismSpec : ChangeSpec := { name := "vlockOptimism", fn := fun _ => fun
  | [d1, d2, d3, d4] => { results := [.lit (.bool true)], args := [d1, d2, d3, d4] }
  | _ => none }
def vlockOptimismRow : OpenClaim := { program := "ytpcniieppbafaaa", sum := "6f17b491f1616825d35b6630c356527e9fbb4d12fe9f05d7ed848af5a45f17b7", func := "marshalling/marshallinglaw03.VlockOptimism", spec := "vlockOptimism", inPlace := ["sync/atomic.LoadUint64", "sync/atomic.CompareAndSwapUint64", "sync/atomic.StoreUint64"], unfollowed := true, recurses := true, apart := false }
def VlockOptimismSaid : Prop := vlockOptimismRow.holds Try.pinned (OpenSpec.ofChange vlockOptimismSpec)

/-- ITS FALSE NEIGHBOUR: 'it returns false'. Refute it at one input. -/
def vlockOptimismWrong : ChangeSpec := { name := "vlockOptimism", fn := fun _ => fun
  | [d1, d2, d3, d4] => { results := [.lit (.bool false)], args := [d1, d2, d3, d4] }
  | _ => none }
def VlockOptimismWrongFalsely : Prop := vlockOptimismRow.holds Try.pinned (OpenSpec.ofChange vlockOptimismWrong)

/- THE SECOND FORM. 'bulk': how many values and letters a reading holds, each counted each time it is reached (what is shared counts as often as it is met; a slice's spare places count too). A statement '..UptoSaid' is the law's where the arguments, and the package variables that the reading takes, are together of bulk at most 1048576: NARROWER than '..Said'. Prove '..Said' where nothing that the law and all that it calls make is longer than what came in: it says more and counts as full. Else prove '..UptoSaid'. A law counts once. -/
mutual
def uptoBulk {H : Type} : DataW H → Nat
  | .lit (.string bytes) => bytes.length + 1
  | .lit _ => 1
  | .nil => 1
  | .ptr d => uptoBulk d + 1
  | .slice elems spare => uptoBulkAll elems + uptoBulkAll spare + 1
  | .agg parts => uptoBulkAll parts + 1
  | .iface _ d => uptoBulk d + 1
  | .map entries => uptoBulkEntries entries + 1
  | .held _ => 1
def uptoBulkAll {H : Type} : List (DataW H) → Nat
  | [] => 0
  | d :: r => uptoBulk d + uptoBulkAll r
def uptoBulkEntries {H : Type} : List (Lit × DataW H) → Nat
  | [] => 0
  | x :: r => uptoBulkEntry x + uptoBulkEntries r
def uptoBulkEntry {H : Type} : Lit × DataW H → Nat
  | (.string bytes, d) => bytes.length + uptoBulk d + 1
  | (_, d) => uptoBulk d + 1
 end
def uptoSmall : (H : Type) → List (DataW H) → Bool := fun _ ds => decide (uptoBulkAll ds ≤ 1048576)
def OpenSpec.upto (s : _root_.Go.ChangeSpec) : _root_.Go.OpenSpec := { _root_.Go.OpenSpec.ofChange s with cond := some uptoSmall }

/-- 'marshallinglaw03.VlockPlays', WHERE WHAT IT READS IS OF BULK AT MOST 1048576: true; the input reads as it did. -/
def vlockPlaysUptoRow : OpenClaim := { program := "ytpcniieppbafaaa", sum := "6f17b491f1616825d35b6630c356527e9fbb4d12fe9f05d7ed848af5a45f17b7", func := "marshalling/marshallinglaw03.VlockPlays", spec := "vlockPlays", inPlace := ["sync/atomic.LoadUint64", "sync/atomic.CompareAndSwapUint64", "sync/atomic.StoreUint64"], unfollowed := true, recurses := true, apart := false, narrowed := true }
def VlockPlaysUptoSaid : Prop := vlockPlaysUptoRow.holds Try.pinned (OpenSpec.upto vlockPlaysSpec)

/-- 'marshallinglaw03.VlockKnown', WHERE WHAT IT READS IS OF BULK AT MOST 1048576: true; the input reads as it did. -/
def vlockKnownUptoRow : OpenClaim := { program := "ytpcniieppbafaaa", sum := "6f17b491f1616825d35b6630c356527e9fbb4d12fe9f05d7ed848af5a45f17b7", func := "marshalling/marshallinglaw03.VlockKnown", spec := "vlockKnown", inPlace := ["sync/atomic.LoadUint64", "sync/atomic.CompareAndSwapUint64"], unfollowed := true, recurses := true, apart := false, narrowed := true }
def VlockKnownUptoSaid : Prop := vlockKnownUptoRow.holds Try.pinned (OpenSpec.upto vlockKnownSpec)

/-- 'marshallinglaw03.VlockWords', WHERE WHAT IT READS IS OF BULK AT MOST 1048576: true; the input reads as it did. -/
def vlockWordsUptoRow : OpenClaim := { program := "ytpcniieppbafaaa", sum := "6f17b491f1616825d35b6630c356527e9fbb4d12fe9f05d7ed848af5a45f17b7", func := "marshalling/marshallinglaw03.VlockWords", spec := "vlockWords", inPlace := ["sync/atomic.LoadUint64", "sync/atomic.CompareAndSwapUint64"], unfollowed := true, recurses := true, apart := false, narrowed := true }
def VlockWordsUptoSaid : Prop := vlockWordsUptoRow.holds Try.pinned (OpenSpec.upto vlockWordsSpec)

/-- 'marshallinglaw03.VlockDead', WHERE WHAT IT READS IS OF BULK AT MOST 1048576: true; the input reads as it did. -/
def vlockDeadUptoRow : OpenClaim := { program := "ytpcniieppbafaaa", sum := "6f17b491f1616825d35b6630c356527e9fbb4d12fe9f05d7ed848af5a45f17b7", func := "marshalling/marshallinglaw03.VlockDead", spec := "vlockDead", inPlace := ["sync/atomic.LoadUint64", "sync/atomic.CompareAndSwapUint64", "sync/atomic.StoreUint64"], unfollowed := true, recurses := true, apart := false, narrowed := true }
def VlockDeadUptoSaid : Prop := vlockDeadUptoRow.holds Try.pinned (OpenSpec.upto vlockDeadSpec)

/-- 'marshallinglaw03.VlockAlone', WHERE WHAT IT READS IS OF BULK AT MOST 1048576: true; the input reads as it did. -/
def vlockAloneUptoRow : OpenClaim := { program := "ytpcniieppbafaaa", sum := "6f17b491f1616825d35b6630c356527e9fbb4d12fe9f05d7ed848af5a45f17b7", func := "marshalling/marshallinglaw03.VlockAlone", spec := "vlockAlone", inPlace := ["sync/atomic.LoadUint64", "sync/atomic.CompareAndSwapUint64", "sync/atomic.StoreUint64"], unfollowed := true, recurses := true, apart := false, narrowed := true }
def VlockAloneUptoSaid : Prop := vlockAloneUptoRow.holds Try.pinned (OpenSpec.upto vlockAloneSpec)

/-- 'marshallinglaw03.VlockOptimism', WHERE WHAT IT READS IS OF BULK AT MOST 1048576: true; the input reads as it did. -/
def vlockOptimismUptoRow : OpenClaim := { program := "ytpcniieppbafaaa", sum := "6f17b491f1616825d35b6630c356527e9fbb4d12fe9f05d7ed848af5a45f17b7", func := "marshalling/marshallinglaw03.VlockOptimism", spec := "vlockOptimism", inPlace := ["sync/atomic.LoadUint64", "sync/atomic.CompareAndSwapUint64", "sync/atomic.StoreUint64"], unfollowed := true, recurses := true, apart := false, narrowed := true }
def VlockOptimismUptoSaid : Prop := vlockOptimismUptoRow.holds Try.pinned (OpenSpec.upto vlockOptimismSpec)

end Rows
end Go.Proofs.Ytpcniieppbafaaa
