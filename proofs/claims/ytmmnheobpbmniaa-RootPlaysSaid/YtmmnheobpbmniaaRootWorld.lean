/- The world of the root's laws: four directories in a list of the call's own, a root of a directory. -/
import Derived.Test.YtmmnheobpbmniaaRootAwake
import Derived.Test.YtmmnheobpbmniaaFlat
import Derived.StillTailTactics
import Derived.Deep.LoopGhost
import Derived.Deep.DeepCutAuto
namespace Go.Proofs.Ytmmnheobpbmniaa
open Go.RowKit
def ds4 (x0 x1 x2 x3 : Option Addr) : Array Value := #[.pointer x0, .pointer x1, .pointer x2, .pointer x3]
structure RW (w0 w : World) (lb r c : Nat) (x0 x1 x2 x3 d : Option Addr) (v : Int) : Prop where
  bel : Below w0.heap.size w0 w
  l : w.heap[lb]? = some (.cells #[.pointer x0, .pointer x1, .pointer x2, .pointer x3] 25)
  rn : RN c r d v w
  lr : lb ≠ r
  wr : w0.heap.size ≤ r
  cl : c < w.heap.size
theorem RW.below {w0 w w' : World} {lb r c : Nat} {x0 x1 x2 x3 d : Option Addr} {v : Int} (h : RW w0 w lb r c x0 x1 x2 x3 d v) (hb : Below w.heap.size w w') : RW w0 w' lb r c x0 x1 x2 x3 d v :=
  ⟨h.bel.trans (hb.mono h.bel.size), Below.heap' hb h.l, h.rn.below hb, h.lr, h.wr, Nat.lt_of_lt_of_le h.cl hb.size⟩
theorem RW.cells {w0 w : World} {lb r c : Nat} {x0 x1 x2 x3 d : Option Addr} {v : Int} (h : RW w0 w lb r c x0 x1 x2 x3 d v) :
    w.cell? ⟨lb, 0, none⟩ = some (.pointer x0) ∧ w.cell? ⟨lb, 1, none⟩ = some (.pointer x1) ∧ w.cell? ⟨lb, 2, none⟩ = some (.pointer x2) ∧ w.cell? ⟨lb, 3, none⟩ = some (.pointer x3) := by
  have := h.l
  refine ⟨?_, ?_, ?_, ?_⟩ <;> (rw [cell_of_heap this]; rfl)
def RWEnd (w0 : World) (lb r c : Nat) (x0 x1 x2 x3 d : Option Addr) (v : Int) (x : Value) (e : Ending) (w' : World) : Prop := e = .returned x ∧ RW w0 w' lb r c x0 x1 x2 x3 d v
theorem RW.step {w0 w : World} {lb r c : Nat} {x0 x1 x2 x3 d d' : Option Addr} {v v' : Int} {f : FuncId} {args : Array Value} {x : Value} (h : RW w0 w lb r c x0 x1 x2 x3 d v) (hc : Calls Try.prog f args w (RNEnd c r d' v' x w)) : Calls Try.prog f args w (RWEnd w0 lb r c x0 x1 x2 x3 d' v' x) :=
  hc.mono fun e w' ⟨he, hr, hu⟩ => ⟨he, h.bel.trans (hu.below h.bel.size (by simp; exact h.wr)), hu.heap h.l (by simp; exact h.lr), hr, h.lr, h.wr, Nat.lt_of_lt_of_le h.cl hu.size⟩
theorem RW.Load {w0 w : World} {lb r c : Nat} {x0 x1 x2 x3 d : Option Addr} {v : Int} (h : RW w0 w lb r c x0 x1 x2 x3 d v) : Calls Try.prog 14 #[.pointer (some ⟨r, 0, none⟩)] w (RWEnd w0 lb r c x0 x1 x2 x3 d v (.tuple #[.pointer d, .int .u64 v])) := h.step h.rn.Load
theorem RW.Version {w0 w : World} {lb r c : Nat} {x0 x1 x2 x3 d : Option Addr} {v : Int} (h : RW w0 w lb r c x0 x1 x2 x3 d v) : Calls Try.prog 16 #[.pointer (some ⟨r, 0, none⟩)] w (RWEnd w0 lb r c x0 x1 x2 x3 d v (.int .u64 v)) := h.step h.rn.Version
theorem RW.Valid {w0 w : World} {lb r c : Nat} {x0 x1 x2 x3 d : Option Addr} {v : Int} (h : RW w0 w lb r c x0 x1 x2 x3 d v) (u : Int) (b : Bool) (hb : (v == u) = b) : Calls Try.prog 17 #[.pointer (some ⟨r, 0, none⟩), .int .u64 u] w (RWEnd w0 lb r c x0 x1 x2 x3 d v (.bool b)) := by
  subst hb
  exact h.step (h.rn.Valid u)
theorem RW.Swap_no {w0 w : World} {lb r c : Nat} {x0 x1 x2 x3 d : Option Addr} {v : Int} (h : RW w0 w lb r c x0 x1 x2 x3 d v) (u : Int) (hu : (v == u) = false) (x : Option Addr) : Calls Try.prog 15 #[.pointer (some ⟨r, 0, none⟩), .int .u64 u, .pointer x] w (RWEnd w0 lb r c x0 x1 x2 x3 d v (.bool false)) := h.step (h.rn.Swap_no u hu x)
theorem RW.Swap_yes {w0 w : World} {lb r c : Nat} {x0 x1 x2 x3 d : Option Addr} {v : Int} (h : RW w0 w lb r c x0 x1 x2 x3 d v) (hv : 0 ≤ v ∧ v ≤ 1000000) (x : Option Addr) : Calls Try.prog 15 #[.pointer (some ⟨r, 0, none⟩), .int .u64 v, .pointer x] w (RWEnd w0 lb r c x0 x1 x2 x3 x (v + 1) (.bool true)) := h.step (h.rn.Swap_yes hv x)
theorem RW.at {w0 w : World} {lb r c : Nat} {x0 x1 x2 x3 d : Option Addr} {v : Int} (h : RW w0 w lb r c x0 x1 x2 x3 d v) (i : Nat) (hi : i ≤ 4) : Calls Try.prog 11 #[.agg #[.pointer x0, .pointer x1, .pointer x2, .pointer x3], .int .i64 i] w (RWEnd w0 lb r c x0 x1 x2 x3 d v (.pointer (dsel x0 x1 x2 x3 i))) :=
  (at_any x0 x1 x2 x3 i hi w).mono fun _ _ ⟨he, hb⟩ => ⟨he, h.below hb⟩
end Go.Proofs.Ytmmnheobpbmniaa
