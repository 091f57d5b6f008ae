/- The contracts of package root, whatever function a root asks. -/
import Derived.Test.YtmmnheobpbmniaaRootOnce
import Derived.Deep.RegionWith
import Derived.Deep.RegionHeld3
import Derived.BigQuiet
namespace Go.Proofs.Ytmmnheobpbmniaa
open Go.RowKit
def RootRaw (w : World) (r : Nat) (dn mu : Int) (ask : Value) (now : Option Addr) : Prop :=
  w.heap[r]? = some (.cells #[.int .u32 dn, .int .i32 mu, .int .u32 0, ask, .pointer now] 57)
def StateIs (w : World) (s : Nat) (d : Option Addr) (v : Int) : Prop := w.heap[s]? = some (.cells #[.pointer d, .int .u64 v] 73)
def Stb (r : Nat) (Q : World → Prop) : Prop := ∀ (w w' : World), Q w → Upd [r] w w' → Q w'
/-- What a root asks: F with what it captured; it tells d, and turns the blocks of S alone. -/
structure AskIs (r : Nat) (F : FuncId) (caps : Array Value) (d : Option Addr) (S : List Nat) (Pre Post : World → Prop) : Prop where
  run : ∀ w, Pre w → Calls Try.prog F caps w fun e w' => e = .returned (.pointer d) ∧ Upd S w w' ∧ Post w'
  pre : Stb r Pre
  post : Stb r Post
  out : r ∉ S
theorem RootRaw.cells {w : World} {r : Nat} {dn mu : Int} {ask : Value} {now : Option Addr} (h : RootRaw w r dn mu ask now) :
    w.cell? ⟨r, 0, none⟩ = some (.int .u32 dn) ∧ w.cell? ⟨r, 1, none⟩ = some (.int .i32 mu) ∧ w.cell? ⟨r, 3, none⟩ = some ask ∧ w.cell? ⟨r, 4, none⟩ = some (.pointer now) ∧ ∀ i, w.frozen? ⟨r, i, none⟩ = false := by
  unfold RootRaw at h
  refine ⟨?_, ?_, ?_, ?_, frozen_of_heap h⟩ <;> (rw [cell_of_heap h]; rfl)
theorem RootRaw.upd {w w' : World} {r : Nat} {dn mu : Int} {ask : Value} {now : Option Addr} {S : List Nat} (h : RootRaw w r dn mu ask now) (hu : Upd S w w') (hr : r ∉ S) : RootRaw w' r dn mu ask now := hu.heap h hr
/-- Behind a new state's block the root's cell is what it was. -/
theorem new_state {w : World} {r : Nat} {dn mu : Int} {ask : Value} {now : Option Addr} (d : Option Addr) (h : RootRaw w r dn mu ask now) :
    (w.alloc (.cells #[.pointer d, .int .u64 0] 73)).cell? ⟨r, 4, none⟩ = some (.pointer now) ∧ (w.alloc (.cells #[.pointer d, .int .u64 0] 73)).frozen? ⟨r, 4, none⟩ = false ∧
    (w.alloc (.cells #[.pointer d, .int .u64 0] 73)).cell? ⟨w.heap.size, 0, none⟩ = some (.pointer d) ∧
    RootRaw ((w.alloc (.cells #[.pointer d, .int .u64 0] 73)).setCell ⟨r, 4, none⟩ (.pointer (some ⟨w.heap.size, 0, none⟩))) r dn mu ask (some ⟨w.heap.size, 0, none⟩) ∧
    StateIs ((w.alloc (.cells #[.pointer d, .int .u64 0] 73)).setCell ⟨r, 4, none⟩ (.pointer (some ⟨w.heap.size, 0, none⟩))) w.heap.size d 0 := by
  have hlt : r < w.heap.size := heap_lt h
  have h2 : RootRaw (w.alloc (.cells #[.pointer d, .int .u64 0] 73)) r dn mu ask now := heap_alloc_old _ h
  refine ⟨h2.cells.2.2.2.1, h2.cells.2.2.2.2 4, ?_, ?_, ?_⟩
  · rw [cell_of_heap (heap_alloc_new _ _)]; rfl
  · unfold RootRaw at h2 ⊢
    rw [heap_set_same h2]
    rfl
  · unfold StateIs
    rw [heap_set_other _ _ (by show w.heap.size ≠ r; omega)]
    exact heap_alloc_new _ _
theorem set_alloc_other {w : World} {p r i : Nat} {o : Obj} {u v : Value} (hp : p ≠ r) (h : w.cell? ⟨p, 0, none⟩ = some v) : ((w.alloc o).setCell ⟨r, i, none⟩ u).cell? ⟨p, 0, none⟩ = some v := by
  have hlt : p < w.heap.size := block_lt_of_cell h
  rw [World.cell?_of_block (heap_set_other _ _ hp), World.cell?_of_block (Below.heap_alloc _ _ _ hlt)]
  exact h
def Load1End (r : Nat) (dn mu : Int) (ask : Value) (d : Option Addr) (S : List Nat) (Post : World → Prop) (w : World) (e : Ending) (w' : World) : Prop :=
  e = .returned (.tuple #[]) ∧ ∃ s, w.heap.size ≤ s ∧ StateIs w' s d 0 ∧ RootRaw w' r dn mu ask (some ⟨s, 0, none⟩) ∧ Upd (r :: S) w w' ∧ Post w'
/-- What load tells: where the directory and its version stand. -/
def LoadEnd (r : Nat) (ask : Value) (d : Option Addr) (v : Int) (S : List Nat) (Post : World → Prop) (w : World) (e : Ending) (w' : World) : Prop :=
  ∃ s, e = .returned (.pointer (some ⟨s, 0, none⟩)) ∧ StateIs w' s d v ∧ RootRaw w' r 1 0 ask (some ⟨s, 0, none⟩) ∧ Upd S w w' ∧ Post w'
end Go.Proofs.Ytmmnheobpbmniaa
