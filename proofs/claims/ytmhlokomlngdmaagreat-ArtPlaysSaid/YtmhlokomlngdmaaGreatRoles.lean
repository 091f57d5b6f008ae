/- Worlds whose blocks have roles: what a step that writes blocks of some roles leaves of the others; no program in sight. -/
import Derived.Test.YtmhlokomlngdmaaGreatRow
namespace Go.Proofs.YtmhlokomlngdmaaGreat
open Go.RowKit
/-- Role 0: a block that was there ahead of the law, or one that nobody speaks of. -/
structure Ro (w0 w : World) (ρ : Nat → Nat) : Prop where
  bel : Below w0.heap.size w0 w
  old : ∀ k, k < w0.heap.size → ρ k = 0
  far : ∀ k, w.heap.size ≤ k → ρ k = 0
/-- A step that writes blocks of the roles rs, and new ones. -/
structure RU (rs : List Nat) (w w' : World) (ρ ρ' : Nat → Nat) : Prop where
  os : w'.os = w.os
  tape : w'.tape = w.tape
  output : w'.output = w.output
  size : w.heap.size ≤ w'.heap.size
  block : ∀ k, k < w.heap.size → ρ k ∉ rs → w'.heap[k]? = w.heap[k]?
  role : ∀ k, k < w.heap.size → ρ' k = ρ k
  far : ∀ k, w'.heap.size ≤ k → ρ' k = 0
section
variable {w0 w w1 w2 : World} {ρ ρ1 ρ2 : Nat → Nat} {rs rs' S : List Nat}
theorem Ro.lt (h : Ro w0 w ρ) {k : Nat} (hk : ρ k ≠ 0) : k < w.heap.size := by
  rcases Nat.lt_or_ge k w.heap.size with h1 | h1
  · exact h1
  · exact absurd (h.far k h1) hk
theorem Ro.ge (h : Ro w0 w ρ) {k : Nat} (hk : ρ k ≠ 0) : w0.heap.size ≤ k := by
  rcases Nat.lt_or_ge k w0.heap.size with h1 | h1
  · exact absurd (h.old k h1) hk
  · exact h1
theorem Ro.step (h : Ro w0 w ρ) (hu : RU rs w w1 ρ ρ1) (h0 : 0 ∉ rs) : Ro w0 w1 ρ1 := by
  refine ⟨h.bel.trans ⟨hu.os, hu.tape, hu.output, hu.size, fun k hk => hu.block k (Nat.lt_of_lt_of_le hk h.bel.size) (by rw [h.old k hk]; exact h0)⟩, fun k hk => ?_, hu.far⟩
  rw [hu.role k (Nat.lt_of_lt_of_le hk h.bel.size)]
  exact h.old k hk
theorem Ro.start (w : World) : Ro w w (fun _ => 0) := ⟨Below.refl _ _, fun _ _ => rfl, fun _ _ => rfl⟩
theorem RU.refl (h : Ro w0 w ρ) : RU rs w w ρ ρ := ⟨rfl, rfl, rfl, Nat.le_refl _, fun _ _ _ => rfl, fun _ _ => rfl, h.far⟩
theorem RU.trans (h : RU rs w w1 ρ ρ1) (k : RU rs w1 w2 ρ1 ρ2) : RU rs w w2 ρ ρ2 :=
  ⟨k.os.trans h.os, k.tape.trans h.tape, k.output.trans h.output, Nat.le_trans h.size k.size, fun i hi hn => (k.block i (Nat.lt_of_lt_of_le hi h.size) (by rw [h.role i hi]; exact hn)).trans (h.block i hi hn), fun i hi => (k.role i (Nat.lt_of_lt_of_le hi h.size)).trans (h.role i hi), k.far⟩
theorem RU.mono (h : RU rs w w1 ρ ρ1) (hs : ∀ r, r ∈ rs → r ∈ rs') : RU rs' w w1 ρ ρ1 := ⟨h.os, h.tape, h.output, h.size, fun k hk hn => h.block k hk (fun hh => hn (hs _ hh)), h.role, h.far⟩
theorem RU.upd (h : Ro w0 w ρ) (hu : Upd S w w1) (hS : ∀ k, k ∈ S → k < w.heap.size → ρ k ∈ rs) : RU rs w w1 ρ ρ :=
  ⟨hu.os, hu.tape, hu.output, hu.size, fun k hk hn => hu.block k hk (fun hh => hn (hS k hh hk)), fun _ _ => rfl, fun k hk => h.far k (Nat.le_trans hu.size hk)⟩
theorem RU.below (h : Ro w0 w ρ) (hb : Below w.heap.size w w1) : RU rs w w1 ρ ρ := RU.upd h (Upd.of_below (S := []) hb) (by simp)
/-- One new block gets a role. -/
def mark (ρ : Nat → Nat) (b r : Nat) (k : Nat) : Nat := if k = b then r else ρ k
theorem mark_self {b r : Nat} : mark ρ b r b = r := if_pos rfl
theorem mark_other {b r k : Nat} (h : k ≠ b) : mark ρ b r k = ρ k := if_neg h
theorem RU.mark (h : RU rs w w1 ρ ρ1) {b r : Nat} (hb : w.heap.size ≤ b) (hb1 : b < w1.heap.size) : RU rs w w1 ρ (mark ρ1 b r) :=
  ⟨h.os, h.tape, h.output, h.size, h.block, fun k hk => by rw [mark_other (by omega)]; exact h.role k hk, fun k hk => by rw [mark_other (by omega)]; exact h.far k hk⟩
theorem RU.heap (h : RU rs w w1 ρ ρ1) {b : Nat} {o : Obj} (hb : w.heap[b]? = some o) (hr : ρ b ∉ rs) : w1.heap[b]? = some o := by
  rw [h.block b (heap_lt hb) hr]; exact hb
theorem RU.row {α : Type} {base k : Nat} {e : TypeId} {f : α → List Value} {v : Value} {L : List α} (h : RU rs w w1 ρ ρ1) (hr : Row base e k f w v L) (hv : ∀ q, v.ownBlock = some q → ρ q ∉ rs) : Row base e k f w1 v L := by
  refine ⟨hr.1, hr.2.1, hr.2.2.1, ?_⟩
  rcases hr.2.2.2 with h2 | ⟨g, cap, cur, rfl, h3, h4, h5⟩
  · exact .inl h2
  · exact .inr ⟨g, cap, cur, rfl, h3, h.heap h4 (hv g rfl), h5⟩
/-- Two blocks of different roles differ. -/
theorem ne_role {a b : Nat} (h : ρ a ≠ ρ b) : a ≠ b := fun e => h (by rw [e])
end
end Go.Proofs.YtmhlokomlngdmaaGreat
