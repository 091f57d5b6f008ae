/- The document's Epoch of layer 4 in memory: Pin, Unpin, Retire, Next. -/
import Derived.Test.YtidiefcgepllmaaRef4
import Derived.StillTailTactics
import Derived.Deep.DeepCutAuto
import Derived.Deep.RegionWith
import Derived.Deep.RegionLaw
namespace Go.Proofs.Ytidiefcgepllmaa
open Go.RowKit
/-- What is retired: its number, and the list that it waits for (a slice that nobody writes). -/
structure RfE where
  n : Int
  a : Option Addr
  c : Nat
  W : List Int
def RfE.u (r : RfE) : Value := .slice r.a r.W.length r.c
def rfCell (r : RfE) : List Value := [.int .i64 r.n, r.u]
theorem rfCell_one (r : RfE) : ∀ y ∈ rfCell r, y.oneCell' = true := by
  intro y hy
  simp [rfCell] at hy
  rcases hy with rfl | rfl <;> rfl
structure RefIs (base : Nat) (w : World) (wp : Nat) (pv lv : Value) (P : List Int) (L : List RfE) : Prop where
  blk : w.heap[wp]? = some (.cells #[pv, lv] 35)
  pr : Row base 3 1 intCell w pv P
  lr : Row base 66 2 rfCell w lv L
  ws : ∀ r, r ∈ L → Row base 3 1 intCell w r.u r.W
  wb : base ≤ wp
/-- Which type a row's block is of. -/
theorem Row.tag {α : Type} {base k : Nat} {e : TypeId} {f : α → List Value} {w : World} {v : Value} {L : List α} (h : Row base e k f w v L) {b : Nat} (hb : v.ownBlock = some b) : ∃ cur, w.heap[b]? = some (.cells cur e) := by
  rcases h.2.2.2 with ⟨rfl, _⟩ | ⟨g, cap, cur, rfl, _, h4, _⟩
  · cases hb
  · simp [Value.ownBlock] at hb
    subst hb
    exact ⟨cur, h4⟩
theorem tag_ne {w : World} {b b' : Nat} {c c' : Array Value} {t t' : TypeId} (h : w.heap[b]? = some (.cells c t)) (h' : w.heap[b']? = some (.cells c' t')) (hn : t ≠ t') : b ≠ b' := by
  intro e
  subst e
  rw [h] at h'
  injection h' with h'
  injection h' with _ h'
  exact hn h'
theorem RefIs.upd {base wp : Nat} {w w' : World} {pv lv : Value} {P : List Int} {L : List RfE} {T : List Nat} (h : RefIs base w wp pv lv P L) (hu : Upd T w w') (h1 : wp ∉ T) (h2 : ∀ q, pv.ownBlock = some q → q ∉ T) (h3 : ∀ q, lv.ownBlock = some q → q ∉ T) (h4 : ∀ r, r ∈ L → ∀ q, r.u.ownBlock = some q → q ∉ T) : RefIs base w' wp pv lv P L :=
  ⟨hu.heap h.blk h1, h.pr.upd hu h2, h.lr.upd hu h3, fun r hr => (h.ws r hr).upd hu (h4 r hr), h.wb⟩
theorem RefIs.ne {base wp : Nat} {w : World} {pv lv : Value} {P : List Int} {L : List RfE} (h : RefIs base w wp pv lv P L) : (∀ q, pv.ownBlock = some q → q ≠ wp) ∧ (∀ q, lv.ownBlock = some q → q ≠ wp) ∧ (∀ r, r ∈ L → ∀ q, r.u.ownBlock = some q → q ≠ wp ∧ lv.ownBlock ≠ some q) ∧ (∀ q, pv.ownBlock = some q → lv.ownBlock ≠ some q) := by
  refine ⟨fun q hq => ?_, fun q hq => ?_, fun r hr q hq => ⟨?_, fun hl => ?_⟩, fun q hq hl => ?_⟩
  · obtain ⟨c, hc⟩ := h.pr.tag hq
    exact tag_ne hc h.blk (by decide)
  · obtain ⟨c, hc⟩ := h.lr.tag hq
    exact tag_ne hc h.blk (by decide)
  · obtain ⟨c, hc⟩ := (h.ws r hr).tag hq
    exact tag_ne hc h.blk (by decide)
  · obtain ⟨c, hc⟩ := (h.ws r hr).tag hq
    obtain ⟨c', hc'⟩ := h.lr.tag hl
    exact tag_ne hc hc' (by decide) rfl
  · obtain ⟨c, hc⟩ := h.pr.tag hq
    obtain ⟨c', hc'⟩ := h.lr.tag hl
    exact tag_ne hc hc' (by decide) rfl
/-- The blocks of the document's Epoch lie in O. -/
def RefJ (base wp : Nat) (P : List Int) (L : List (Int × List Int)) (O : List Nat) (w : World) : Prop :=
  ∃ pv lv LL, RefIs base w wp pv lv P LL ∧ LL.map (fun r => (r.n, r.W)) = L ∧ wp ∈ O ∧ (∀ q, pv.ownBlock = some q → q ∈ O) ∧ (∀ q, lv.ownBlock = some q → q ∈ O) ∧ (∀ r, r ∈ LL → ∀ q, r.u.ownBlock = some q → q ∈ O) ∧ ∀ k, k ∈ O → base ≤ k ∧ k < w.heap.size
theorem RefJ.stab {base wp : Nat} {w w' : World} {P : List Int} {L : List (Int × List Int)} {O T : List Nat} (h : RefJ base wp P L O w) (hu : Upd T w w') (hT : ∀ k, k ∈ T → k ∉ O) : RefJ base wp P L O w' := by
  obtain ⟨pv, lv, LL, h1, h2, h3, h4, h5, h6, h7⟩ := h
  have hn : ∀ k, k ∈ O → k ∉ T := fun k hk hh => hT k hh hk
  exact ⟨pv, lv, LL, h1.upd hu (hn _ h3) (fun q hq => hn _ (h4 q hq)) (fun q hq => hn _ (h5 q hq)) (fun r hr q hq => hn _ (h6 r hr q hq)), h2, h3, h4, h5, h6, fun k hk => ⟨(h7 k hk).1, Nat.lt_of_lt_of_le (h7 k hk).2 hu.size⟩⟩
/-- What a function of the document's Epoch leaves. -/
def RefEnd (base wp : Nat) (P : List Int) (L : List (Int × List Int)) (O : List Nat) (w w' : World) : Prop :=
  ∃ O', RefJ base wp P L O' w' ∧ Upd O w w' ∧ ∀ k, k ∈ O' → k ∈ O ∨ w.heap.size ≤ k
end Go.Proofs.Ytidiefcgepllmaa
