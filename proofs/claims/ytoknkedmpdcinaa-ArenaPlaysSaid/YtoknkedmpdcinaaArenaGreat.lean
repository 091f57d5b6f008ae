/- Acts that came in, and what Great says of them. -/
import Derived.Test.YtoknkedmpdcinaaFlat
import Derived.Test.YtoknkedmpdcinaaArenaAwake
namespace Go.Proofs.Ytoknkedmpdcinaa
open Go.RowKit
abbrev actK : List Kd := [.inl .i64, .inl .u8, .inr false, .inl .i64, .inl .u64, .inl .u8]
/-- The k-th act, as its cells. -/
def ActAt (w : World) (b o : Nat) (dó : Int) (inn : Int) (x : ByteArray) (sl gn : Int) (ago : Int) : Prop :=
  w.cell? ⟨b, o, none⟩ = some (.int .i64 dó) ∧ w.cell? ⟨b, o + 1, none⟩ = some (.int .u8 inn) ∧ w.cell? ⟨b, o + 2, none⟩ = some (.string x) ∧ w.cell? ⟨b, o + 3, none⟩ = some (.int .i64 sl) ∧ w.cell? ⟨b, o + 4, none⟩ = some (.int .u64 gn) ∧ w.cell? ⟨b, o + 5, none⟩ = some (.int .u8 ago)
theorem act_row {w : World} {s : Option Addr} {len : Nat} {rows : List (List Value)} (hr : IsFlat actK w s len rows) :
    ∀ k, k < len → ∃ b off, s = some ⟨b, off, none⟩ ∧ b < w.heap.size ∧ ∃ dó inn x sl gn ago, ActAt w b (off + k * 6) dó inn x sl gn ago ∧ (Lit.int .i64 dó).wf = true ∧ (0 ≤ inn ∧ inn ≤ 255) ∧ x.size ≤ maxLen ∧ (Lit.int .i64 sl).wf = true ∧ (Lit.int .u64 gn).wf = true ∧ 0 ≤ ago ∧ ago ≤ 255 := by
  intro k hk
  rcases hr with ⟨h0, _⟩ | ⟨b, off, hs, _, _, hb, hc⟩
  · omega
  obtain ⟨h1, h2⟩ := hc k hk
  generalize rows.getD k [] = r at *
  obtain ⟨v0, v1, v2, v3, v4, v5, rfl, ⟨n0, rfl, q0⟩, ⟨n1, rfl, q1⟩, ⟨x, rfl, q2⟩, ⟨n3, rfl, q3⟩, ⟨n4, rfl, q4⟩, ⟨n5, rfl, q5⟩⟩ := h1.of6
  have g0 := h2 0 (by simp)
  have g1 := h2 1 (by simp)
  have g2 := h2 2 (by simp)
  have g3 := h2 3 (by simp)
  have g4 := h2 4 (by simp)
  have g5 := h2 5 (by simp)
  simp only [List.length_cons, List.length_nil, Nat.zero_add, Nat.reduceAdd, Nat.add_zero, ← Nat.add_assoc, List.getElem?_cons_zero, List.getElem?_cons_succ] at g0 g1 g2 g3 g4 g5
  refine ⟨b, off, hs, hb, n0, n1, x, n3, n4, n5, ⟨g0, g1, g2, g3, g4, g5⟩, q0, ?_, q2, q3, q4, ?_⟩
  · simp [Lit.wf, IntKind.min, IntKind.max, IntKind.signed, IntKind.bits] at q1
    omega
  · simp [Lit.wf, IntKind.min, IntKind.max, IntKind.signed, IntKind.bits] at q5
    omega
set_option maxHeartbeats 1000000 in
theorem great_any (s : Option Addr) (len cap : Nat) (rows : List (List Value)) (w : World) (hr : IsFlat actK w s len rows) (hlen : len ≤ maxLen) :
    Calls Try.prog 10 #[.slice s len cap] w fun e w' => (e = .returned (.bool true) ∨ (e = .returned (.bool false) ∧ len ≤ 200)) ∧ Below w.heap.size w w' := by
  have hro := Lib.hid (act_row hr)
  clear hr
  unfold maxLen at hlen
  go_enter Try.func10, Try.ntmps10
  go_wp2_with fail
  go_loopw [3, 4] (fun n i wr => ∃ (k : Nat) (m : Nat), k ≤ len ∧ k ≤ 201 ∧ n = .int .i64 m ∧ i = .int .i64 k ∧ m ≤ k * 60001 ∧ Below w.heap.size w wr) (fun _ i _ => len - (intOf i).toNat)
  case atStart => exact ⟨0, 0, Nat.zero_le _, Nat.zero_le _, rfl, rfl, by omega, Below.refl _ _⟩
  case round =>
    obtain ⟨k, m, hk, hk2, rfl, rfl, hm, hB⟩ := hrel
    replace hB := Lib.hid hB
    by_cases hlt : k < len
    · by_cases h2 : k ≤ 200
      · obtain ⟨b, off, rfl, hbw, a0, a1, x, a3, a4, a5, hact, _, _, hx, _⟩ := hro.out k hlt
        have g2 := keep hB.out hact.2.2.1
        unfold maxLen at hx
        clear hact hro
        go_wp2_with fail
        obtain ⟨y, hy, hy2⟩ : ∃ y : Nat, (if (60001 : Int) < (x.size : Int) then (60001 : Int) else (x.size : Int)) = y ∧ y ≤ 60001 := by
          by_cases hh : (60001 : Int) < (x.size : Int)
          · exact ⟨60001, by simp [hh], by omega⟩
          · exact ⟨x.size, by simp [hh], by omega⟩
        rw [hy]
        go_roundw
        case rel => exact ⟨k + 1, m + y, by omega, by omega, by go_num, by go_num, by rw [Nat.add_mul]; omega, hB.out⟩
        case measure => simp [intOf]; omega
      · have hk3 : (k : Int) = 201 := by omega
        go_wp2_with fail
        all_goals
          go_ret
          exact ⟨.inl rfl, hB.out⟩
    · have hk3 : (k : Int) = len := by omega
      have hm6 : m ≤ 60000 ∨ 60000 < m := by omega
      by_cases h200 : 200 < len
      · go_wp2_with fail
        go_ret
        exact ⟨.inl rfl, hB.out⟩
      rcases hm6 with hm6 | hm6
      · go_wp2_with fail
        go_ret
        refine ⟨.inr ⟨?_, by omega⟩, hB.out⟩
        simp
        omega
      · go_wp2_with fail
        go_ret
        refine ⟨.inl ?_, hB.out⟩
        simp
        omega
end Go.Proofs.Ytoknkedmpdcinaa
