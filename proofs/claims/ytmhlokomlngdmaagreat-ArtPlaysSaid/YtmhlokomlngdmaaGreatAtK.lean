/- Where a slice's elements stand. -/
import Derived.Test.YtmhlokomlngdmaaGreatRow
import Derived.Test.YtmhlokomlngdmaaGreatArtN
import Derived.Laws.Strings
import Derived.StillTailTactics
import Derived.IntWalk
namespace Go.Proofs.YtmhlokomlngdmaaGreat
open Go.RowKit
/-- A slice (address a, capacity c) has these elements, of k cells each. -/
def At {α : Type} (w : World) (k : Nat) (f : α → List Value) (a : Option Addr) (c : Nat) (L : List α) : Prop :=
  L.length ≤ c ∧ c ≤ 9223372036854775807 ∧ ((a = none ∧ c = 0) ∨ ∃ b o, a = some ⟨b, o, none⟩ ∧ (L ≠ [] → b < w.heap.size) ∧ ∀ i x, L[i]? = some x → ∀ j y, (f x)[j]? = some y → w.cell? ⟨b, o + i * k + j, none⟩ = some y)
def bcel (x : UInt8) : List Value := [.int .u8 x.toNat]
def hcel (x : Hd) : List Value := [.int .i64 x.1, .int .u64 x.2]
theorem bcel_len (x : UInt8) : (bcel x).length = 1 := rfl
theorem bcel_one (x : UInt8) : ∀ y ∈ bcel x, y.oneCell' = true := by intro y hy; simp [bcel] at hy; subst hy; rfl
theorem hcel_len (x : Hd) : (hcel x).length = 2 := rfl
theorem hcel_one (x : Hd) : ∀ y ∈ hcel x, y.oneCell' = true := by intro y hy; simp [hcel] at hy; rcases hy with rfl | rfl <;> rfl
section
variable {α : Type} {w w' : World} {k : Nat} {f : α → List Value} {a : Option Addr} {c : Nat} {L : List α}
theorem At.below (h : At w k f a c L) (hb : Below w.heap.size w w') : At w' k f a c L := by
  obtain ⟨h1, h2, h3⟩ := h
  refine ⟨h1, h2, ?_⟩
  rcases h3 with h3 | ⟨b, o, e, h4, h5⟩
  · exact .inl h3
  · exact .inr ⟨b, o, e, fun hn => Nat.lt_of_lt_of_le (h4 hn) hb.size, fun i x hx j y hy => keep hb (h5 i x hx j y hy)⟩
theorem At.some (h : At w k f a c L) (hn : 0 < L.length) :
    ∃ b o, a = some ⟨b, o, none⟩ ∧ b < w.heap.size ∧ L.length ≤ c ∧ c ≤ 9223372036854775807 ∧ ∀ i x, L[i]? = some x → ∀ j y, (f x)[j]? = some y → w.cell? ⟨b, o + i * k + j, none⟩ = some y := by
  obtain ⟨h1, h2, h3⟩ := h
  rcases h3 with ⟨_, h3⟩ | ⟨b, o, e, h4, h5⟩
  · omega
  · exact ⟨b, o, e, h4 (by intro e; rw [e] at hn; simp at hn), h1, h2, h5⟩
theorem Row.at' {base : Nat} {e : TypeId} (h : Row base e k f w (.slice a L.length c) L) : At w k f a c L := by
  rcases h.cases with ⟨h1, rfl⟩ | ⟨b, cap, h1, h2, h3, h4, h5, h6, h7, _⟩
  · injection h1 with h1 _ h3
    exact ⟨Nat.zero_le _, by omega, .inl ⟨h1, h3⟩⟩
  · injection h1 with h1 _ h3
    subst h1 h3
    refine ⟨h5, by unfold maxLen at h6; omega, .inr ⟨b, 0, rfl, fun _ => h3, fun i x hx j y hy => ?_⟩⟩
    rw [Nat.zero_add]
    exact h7 _ _ (flat_get h.1 L i x hx j y hy)
end
theorem At.byte {w : World} {a : Option Addr} {c : Nat} {L : List UInt8} (h : At w 1 bcel a c L) (hn : 0 < L.length) :
    ∃ b o, a = Option.some ⟨b, o, none⟩ ∧ b < w.heap.size ∧ L.length ≤ c ∧ c ≤ 9223372036854775807 ∧ ∀ i x, L[i]? = Option.some x → w.cell? ⟨b, o + i, none⟩ = Option.some (.int .u8 x.toNat) := by
  obtain ⟨b, o, e, h1, h2, h3, h4⟩ := h.some hn
  refine ⟨b, o, e, h1, h2, h3, fun i x hx => ?_⟩
  have := h4 i x hx 0 _ rfl
  simpa using this
def setO (i : Nat) (v : Value) : Obj → Obj
  | .cells c t fr => .cells (c.setIfInBounds i v) t fr
  | o => o
theorem heap_self {w : World} {b i : Nat} {v : Value} : (w.setCell ⟨b, i, none⟩ v).heap[b]? = (w.heap[b]?).map (setO i v) := by
  cases h : w.heap[b]? with
  | none =>
    simp [World.setCell, Array.getElem?_modify, h]
  | some o =>
    cases o with
    | cells c t fr => rw [heap_set_same h]; rfl
    | _ => simp [World.setCell, Array.getElem?_modify, h, setO]
end Go.Proofs.YtmhlokomlngdmaaGreat
