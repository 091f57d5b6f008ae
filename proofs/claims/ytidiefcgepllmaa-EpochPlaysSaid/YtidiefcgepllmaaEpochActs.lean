/- Acts of layer 4 that came in. -/
import Derived.Test.YtidiefcgepllmaaFlat
import Derived.Test.YtidiefcgepllmaaLib
import Derived.Laws.BitsLemmas
namespace Go.Proofs.Ytidiefcgepllmaa
open Go.RowKit
abbrev act4K : List Kd := [.inl .i64, .inl .i64, .inl .i64]
theorem act4_row {w : World} {s : Option Addr} {len : Nat} {rows : List (List Value)} (hr : IsFlat act4K w s len rows) :
    ∀ k, k < len → ∃ b off, s = some ⟨b, off, none⟩ ∧ b < w.heap.size ∧ ∃ d t th, w.cell? ⟨b, off + k * 3, none⟩ = some (.int .i64 d) ∧ w.cell? ⟨b, off + k * 3 + 1, none⟩ = some (.int .i64 t) ∧ w.cell? ⟨b, off + k * 3 + 2, none⟩ = some (.int .i64 th) ∧ (Lit.int .i64 d).wf = true ∧ (Lit.int .i64 t).wf = true ∧ (Lit.int .i64 th).wf = true := by
  intro k hk
  rcases hr with ⟨h0, _⟩ | ⟨b, off, hs, _, _, hb, hc⟩
  · omega
  obtain ⟨h1, h2⟩ := hc k hk
  generalize rows.getD k [] = r at *
  obtain ⟨v0, v1, v2, rfl, ⟨n0, rfl, q0⟩, ⟨n1, rfl, q1⟩, ⟨n2, rfl, q2⟩⟩ := h1.of3
  have g0 := h2 0 (by simp)
  have g1 := h2 1 (by simp)
  have g2 := h2 2 (by simp)
  simp only [List.length_cons, List.length_nil, Nat.zero_add, Nat.reduceAdd, Nat.add_zero, ← Nat.add_assoc, List.getElem?_cons_zero, List.getElem?_cons_succ] at g0 g1 g2
  exact ⟨b, off, hs, hb, n0, n1, n2, g0, g1, g2, q0, q1, q2⟩
theorem i64_and7 (n : Int) : bits .and .i64 n 7 = n % 8 := by
  have h7 : (BitVec.ofInt 64 7).toNat = 2 ^ 3 - 1 := by decide
  have key : (BitVec.ofInt 64 n &&& BitVec.ofInt 64 7).toNat = (n % ((2 ^ 64 : Nat) : Int)).toNat % 2 ^ 3 := by
    rw [BitVec.toNat_and, BitVec.toNat_ofInt, h7, Nat.and_two_pow_sub_one_eq_mod]
  show IntKind.i64.wrap ((BitVec.ofInt 64 n &&& BitVec.ofInt 64 7).toNat : Nat) = n % 8
  rw [key, IntKind.wrap_i64]
  omega
end Go.Proofs.Ytidiefcgepllmaa
