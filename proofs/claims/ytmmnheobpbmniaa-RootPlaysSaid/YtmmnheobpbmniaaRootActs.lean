/- The acts of the root's laws; the world of the laws with a block of the call's own beside. -/
import Derived.Test.YtmmnheobpbmniaaRootWorld
namespace Go.Proofs.Ytmmnheobpbmniaa
open Go.RowKit
abbrev act19K : List Kd := [.inl .i64, .inl .u64, .inr true, .inl .u8]
def Act19 (w : World) (b o : Nat) (dó v : Int) (now : Bool) (dd : Int) : Prop :=
  w.cell? ⟨b, o, none⟩ = some (.int .i64 dó) ∧ w.cell? ⟨b, o + 1, none⟩ = some (.int .u64 v) ∧ w.cell? ⟨b, o + 2, none⟩ = some (.bool now) ∧ w.cell? ⟨b, o + 3, none⟩ = some (.int .u8 dd)
theorem act19_row {w : World} {s : Option Addr} {len : Nat} {rows : List (List Value)} (hr : IsFlat act19K w s len rows) :
    ∀ k, k < len → ∃ b off, s = some ⟨b, off, none⟩ ∧ b < w.heap.size ∧ ∃ dó v now dd, Act19 w b (off + k * 4) dó v now dd ∧ (Lit.int .i64 dó).wf = true ∧ (Lit.int .u64 v).wf = true ∧ 0 ≤ dd ∧ dd ≤ 255 := by
  intro k hk
  rcases hr with ⟨h0, _⟩ | ⟨b, off, hs, _, _, hb, hc⟩
  · omega
  obtain ⟨h1, h2⟩ := hc k hk
  generalize rows.getD k [] = r at *
  obtain ⟨v0, v1, v2, v3, rfl, ⟨n0, rfl, q0⟩, ⟨n1, rfl, q1⟩, ⟨b2, rfl⟩, ⟨n3, rfl, q3⟩⟩ := h1.of4
  have g0 := h2 0 (by simp)
  have g1 := h2 1 (by simp)
  have g2 := h2 2 (by simp)
  have g3 := h2 3 (by simp)
  simp only [List.length_cons, List.length_nil, Nat.zero_add, Nat.reduceAdd, Nat.add_zero, ← Nat.add_assoc, List.getElem?_cons_zero, List.getElem?_cons_succ] at g0 g1 g2 g3
  refine ⟨b, off, hs, hb, n0, n1, b2, n3, ⟨g0, g1, g2, g3⟩, q0, q1, ?_⟩
  simp [Lit.wf, IntKind.min, IntKind.max, IntKind.signed, IntKind.bits] at q3
  omega
/-- .. and a block of the call's own that no root turns. -/
structure RX (w0 w : World) (lb r c : Nat) (x0 x1 x2 x3 d : Option Addr) (v : Int) (xb : Nat) (dó V : Int) (now : Bool) (dd : Int) : Prop where
  rw : RW w0 w lb r c x0 x1 x2 x3 d v
  x : w.heap[xb]? = some (.cells #[.int .i64 dó, .int .u64 V, .bool now, .int .u8 dd] 62)
  xr : xb ≠ r
  xl : xb ≠ lb
  xc : xb ≠ c
  xw : w0.heap.size ≤ xb
theorem RX.cells {w0 w : World} {lb r c : Nat} {x0 x1 x2 x3 d : Option Addr} {v : Int} {xb : Nat} {dó V : Int} {now : Bool} {dd : Int} (h : RX w0 w lb r c x0 x1 x2 x3 d v xb dó V now dd) :
    w.cell? ⟨xb, 0, none⟩ = some (.int .i64 dó) ∧ w.cell? ⟨xb, 1, none⟩ = some (.int .u64 V) ∧ w.cell? ⟨xb, 2, none⟩ = some (.bool now) ∧ w.cell? ⟨xb, 3, none⟩ = some (.int .u8 dd) ∧ ∀ i, w.frozen? ⟨xb, i, none⟩ = false := by
  have := h.x
  refine ⟨?_, ?_, ?_, ?_, frozen_of_heap this⟩ <;> (rw [cell_of_heap this]; rfl)
theorem RX.below {w0 w w' : World} {lb r c : Nat} {x0 x1 x2 x3 d : Option Addr} {v : Int} {xb : Nat} {dó V : Int} {now : Bool} {dd : Int} (h : RX w0 w lb r c x0 x1 x2 x3 d v xb dó V now dd) (hb : Below w.heap.size w w') : RX w0 w' lb r c x0 x1 x2 x3 d v xb dó V now dd :=
  ⟨h.rw.below hb, Below.heap' hb h.x, h.xr, h.xl, h.xc, h.xw⟩
/-- A new block for the act. -/
theorem RW.act {w0 w : World} {lb r c : Nat} {x0 x1 x2 x3 d : Option Addr} {v : Int} (h : RW w0 w lb r c x0 x1 x2 x3 d v) (dó V : Int) (now : Bool) (dd : Int) :
    RX w0 (w.alloc (.cells #[.int .i64 dó, .int .u64 V, .bool now, .int .u8 dd] 62)) lb r c x0 x1 x2 x3 d v w.heap.size dó V now dd := by
  have h1 := heap_lt h.l
  have h2 : r < w.heap.size := by
    rcases h.rn.2 with ⟨hh, _⟩ | ⟨_, hh, _⟩
    · exact heap_lt hh
    · exact heap_lt hh
  have hc := h.cl
  exact ⟨h.below ((Below.refl _ _).alloc (Nat.le_refl _) _), heap_alloc_new _ _, by omega, by omega, by omega, h.bel.size⟩
/-- Its version is written anew. -/
theorem RX.set {w0 w : World} {lb r c : Nat} {x0 x1 x2 x3 d : Option Addr} {v : Int} {xb : Nat} {dó V : Int} {now : Bool} {dd : Int} (h : RX w0 w lb r c x0 x1 x2 x3 d v xb dó V now dd) (V' : Int) :
    RX w0 (w.setCell ⟨xb, 1, none⟩ (.int .u64 V')) lb r c x0 x1 x2 x3 d v xb dó V' now dd := by
  refine ⟨⟨h.rw.bel.setCell (p := ⟨xb, 1, none⟩) h.xw _, ?_, ⟨h.rw.rn.1, ?_⟩, h.rw.lr, h.rw.wr, by simp [World.setCell]; exact h.rw.cl⟩, ?_, h.xr, h.xl, h.xc, h.xw⟩
  · rw [heap_set_other _ _ (fun e => h.xl e.symm)]
    exact h.rw.l
  · rcases h.rw.rn.2 with ⟨h1, h2, h3⟩ | ⟨s, h1, h2, _⟩
    · refine .inl ⟨?_, ?_, h3⟩
      · unfold RootRaw at h1 ⊢
        rw [heap_set_other _ _ (fun e => h.xr e.symm)]
        exact h1
      · rw [World.cell?_of_block (heap_set_other _ _ (fun e => h.xc e.symm))]
        exact h2
    · refine .inr ⟨s, ?_, ?_, trivial⟩
      · unfold RootRaw at h1 ⊢
        rw [heap_set_other _ _ (fun e => h.xr e.symm)]
        exact h1
      · unfold StateIs at h2 ⊢
        rw [heap_set_other _ _ (fun e => by
          have e2 : s = xb := e
          rw [e2, h.x] at h2
          cases h2)]
        exact h2
  · rw [heap_set_same h.x]
    rfl
def RXEnd (w0 : World) (lb r c : Nat) (x0 x1 x2 x3 d : Option Addr) (v : Int) (xb : Nat) (dó V : Int) (now : Bool) (dd : Int) (x : Value) (e : Ending) (w' : World) : Prop := e = .returned x ∧ RX w0 w' lb r c x0 x1 x2 x3 d v xb dó V now dd
theorem RX.step {w0 w : World} {lb r c : Nat} {x0 x1 x2 x3 d d' : Option Addr} {v v' : Int} {xb : Nat} {dó V : Int} {now : Bool} {dd : Int} {f : FuncId} {args : Array Value} {x : Value} (h : RX w0 w lb r c x0 x1 x2 x3 d v xb dó V now dd) (hc : Calls Try.prog f args w (RNEnd c r d' v' x w)) :
    Calls Try.prog f args w (RXEnd w0 lb r c x0 x1 x2 x3 d' v' xb dó V now dd x) :=
  hc.mono fun e w' ⟨he, hr, hu⟩ => ⟨he, ⟨h.rw.bel.trans (hu.below h.rw.bel.size (by simp; exact h.rw.wr)), hu.heap h.rw.l (by simp; exact h.rw.lr), hr, h.rw.lr, h.rw.wr, Nat.lt_of_lt_of_le h.rw.cl hu.size⟩, hu.heap h.x (by simp; exact h.xr), h.xr, h.xl, h.xc, h.xw⟩
theorem RX.at {w0 w : World} {lb r c : Nat} {x0 x1 x2 x3 d : Option Addr} {v : Int} {xb : Nat} {dó V : Int} {now : Bool} {dd : Int} (h : RX w0 w lb r c x0 x1 x2 x3 d v xb dó V now dd) (i : Nat) (hi : i ≤ 4) :
    Calls Try.prog 11 #[.agg #[.pointer x0, .pointer x1, .pointer x2, .pointer x3], .int .i64 i] w (RXEnd w0 lb r c x0 x1 x2 x3 d v xb dó V now dd (.pointer (dsel x0 x1 x2 x3 i))) :=
  (at_any x0 x1 x2 x3 i hi w).mono fun _ _ ⟨he, hb⟩ => ⟨he, h.below hb⟩
end Go.Proofs.Ytmmnheobpbmniaa
