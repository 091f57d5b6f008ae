/- Two texts: how far they are alike, and what is left behind a prefix. -/
import Derived.Test.YtmhlokomlngdmaaArtN
import Derived.Test.YtmhlokomlngdmaaBSearch
import Derived.Test.YtmhlokomlngdmaaLib
import Derived.Test.YtmhlokomlngdmaaProg
import Derived.Lib.Strings
import Derived.Lib.Slices
import Derived.Lib.Walk
import Derived.WalkLawsBesides
import Derived.WalkSpells
import Derived.Outline
import Derived.BigQuiet
import Derived.WalkSmall
import Derived.RegionTactic
import Derived.IntWalk
import Derived.Deep.LoopGhost
import Derived.LoopTactic
namespace Go.Proofs.Ytmhlokomlngdmaa
open Go.Lib Go.RowKit
theorem bl_size (a : Str) : (bl a).length = a.size := Array.length_toList
theorem hasPrefix_iff (s p : Byt) : Lib.hasPrefix s p = true ↔ p <+: s := by
  unfold Lib.hasPrefix
  exact List.isPrefixOf_iff_prefix
set_option maxHeartbeats 1000000 in
theorem cutPrefix_any (s p : Str) (w : World) :
    Calls Try.prog 33 #[.string s, .string p] w fun e w' => ((∃ t : Str, bl s = bl p ++ bl t ∧ e = .returned (.tuple #[.string t, .bool true])) ∨ (¬ bl p <+: bl s ∧ e = .returned (.tuple #[.string s, .bool false]))) ∧ w = w' := by
  have h1 : Calls Try.prog 33 #[.string s, .string p] w fun e w' => e = .returned (.tuple #[.string ⟨(Lib.trimPrefix s.data.toList p.data.toList).toArray⟩, .bool (Lib.hasPrefix s.data.toList p.data.toList)]) ∧ w' = w := by
    go_enter Try.func33, Try.ntmps33
    go_wp2
    · have h2 : (!((s.extract 0 p.size).toList == p.toList)) = true := by assumption
      have h3 : (decide (p.size ≤ s.size) && ((s.extract 0 p.size).toList == p.toList)) = false := by
        have : ((s.extract 0 p.size).toList == p.toList) = false := by simpa using h2
        rw [this]
        simp
      go_ret2
      refine ⟨?_, rfl⟩
      rw [Lib.trimPrefix_miss s p h3, ← Lib.hasPrefix_raw, h3]
      rfl
    · have h1 : p.size ≤ s.size := by assumption
      have h2 : (!((s.extract 0 p.size).toList == p.toList)) = false := by assumption
      have h2' : ((s.extract 0 p.size).toList == p.toList) = true := by simpa using h2
      go_ret2
      refine ⟨?_, rfl⟩
      rw [Lib.trimPrefix_hit s p h1 h2', ← Lib.hasPrefix_raw, h2', decide_eq_true h1]
      rfl
    · have h1 : ¬ p.size ≤ s.size := by assumption
      have h3 : (decide (p.size ≤ s.size) && ((s.extract 0 p.size).toList == p.toList)) = false := by simp [h1]
      go_ret2
      refine ⟨?_, rfl⟩
      rw [Lib.trimPrefix_miss s p h3, ← Lib.hasPrefix_raw, h3]
      rfl
  refine h1.mono ?_
  rintro e w' ⟨rfl, rfl⟩
  refine ⟨?_, rfl⟩
  cases hp : Lib.hasPrefix s.data.toList p.data.toList with
  | true =>
    left
    obtain ⟨t, ht⟩ := (hasPrefix_iff _ _).1 hp
    refine ⟨bs t, by rw [bl_bs]; exact ht.symm, ?_⟩
    have : Lib.trimPrefix s.data.toList p.data.toList = t := by
      unfold Lib.trimPrefix
      rw [if_pos hp, ← ht]
      exact List.drop_left
    rw [this]
  | false =>
    right
    refine ⟨fun hh => (by rw [(hasPrefix_iff _ _).2 hh] at hp; cases hp), ?_⟩
    have : Lib.trimPrefix s.data.toList p.data.toList = s.data.toList := by
      unfold Lib.trimPrefix
      rw [if_neg (by rw [hp]; exact Bool.false_ne_true)]
    rw [this]
/-- How far two rows of bytes are alike. -/
theorem cpre_at : ∀ (a b : Byt) (i : Nat), i ≤ a.length → i ≤ b.length → (∀ j, j < i → a[j]? = b[j]?) → (i = a.length ∨ i = b.length ∨ a[i]? ≠ b[i]?) → (cpre a b).length = i
  | [], b, i, h1, _, _, _ => by simp at h1; subst h1; simp [cpre]
  | _ :: _, [], i, _, h2, _, _ => by simp at h2; subst h2; simp [cpre]
  | x :: a, y :: b, 0, _, _, _, h4 => by
    unfold cpre
    have : x ≠ y := by
      rcases h4 with h4 | h4 | h4
      · simp at h4
      · simp at h4
      · simpa using h4
    rw [if_neg this, List.length_nil]
  | x :: a, y :: b, i + 1, h1, h2, h3, h4 => by
    have h0 := h3 0 (by omega)
    simp at h0
    unfold cpre
    rw [if_pos h0, List.length_cons, cpre_at a b i (by simpa using h1) (by simpa using h2) (fun j hj => by simpa using h3 (j + 1) (by omega)) (by simpa using h4)]
theorem cpre_split (a b : Byt) : ∃ s t, a = cpre a b ++ s ∧ b = cpre a b ++ t ∧ (s = [] ∨ t = [] ∨ ∃ x y s' t', s = x :: s' ∧ t = y :: t' ∧ x ≠ y) := by
  obtain ⟨s, hs⟩ := cpre_l a b
  obtain ⟨t, ht⟩ := cpre_r a b
  refine ⟨s, t, hs.symm, ht.symm, ?_⟩
  cases s with
  | nil => exact .inl rfl
  | cons x s =>
    cases t with
    | nil => exact .inr (.inl rfl)
    | cons y t =>
      refine .inr (.inr ⟨x, y, s, t, rfl, rfl, fun hh => ?_⟩)
      subst hh
      have := (cpre_max (p := cpre a b ++ [x]) (a := a) (b := b) ⟨s, by rw [List.append_assoc]; exact hs⟩ ⟨t, by rw [List.append_assoc]; exact ht⟩).length_le
      rw [List.length_append, List.length_singleton] at this
      omega
theorem bl_get {a : Str} {i : Nat} (h : i < a.size) : (bl a)[i]? = some (a.get i h) := by
  have : i < a.data.size := h
  simp [ByteArray.get]
set_option maxRecDepth 100000 in
theorem common_any (a b : Str) (w : World) (ha : a.size ≤ 9223372036854775807) :
    Calls Try.prog 42 #[.string a, .string b] w fun e w' => e = .returned (.int .i64 (cpre (bl a) (bl b)).length) ∧ Below w.heap.size w w' := by
  have hsz1 := bl_size a
  have hsz2 := bl_size b
  obtain ⟨n, hn⟩ : ∃ n : Nat, n = if a.size ≤ b.size then a.size else b.size := ⟨_, rfl⟩
  have hna : n ≤ a.size := by rw [hn]; split <;> omega
  have hnb : n ≤ b.size := by rw [hn]; split <;> omega
  have hnn : n = a.size ∨ n = b.size := by rw [hn]; split <;> simp
  have hmin : min (a.size : Int) (b.size : Int) = n := by rw [hn]; split <;> omega
  replace hn := Lib.hid hn
  replace hsz1 := Lib.hid hsz1
  replace hsz2 := Lib.hid hsz2
  go_enter Try.func42, Try.ntmps42
  go_wp2_with fail
  go_loopg [13] (n + 1) (fun gk v13 wr => ∃ i : Nat, gk = n + 1 - i ∧ v13 = .int .i64 i ∧ i ≤ n ∧ (∀ j, j < i → (bl a)[j]? = (bl b)[j]?) ∧ Below w.heap.size w wr)
  case atStart => exact ⟨0, rfl, rfl, Nat.zero_le _, fun j hj => absurd hj (Nat.not_lt_zero _), Below.refl _ _⟩
  case round =>
    obtain ⟨i, rfl, rfl, hi, hall, hBw⟩ := hrel
    replace hBw := Lib.hid hBw
    replace hall := Lib.hid hall
    by_cases hlt : i < n
    · have hia : i < a.size := by omega
      have hib : i < b.size := by omega
      have ga : ∀ W, (Instr.index 9 (.string a) (.int .i64 (i : Nat))).run Try.prog W = .ok (.int .u8 (a.get i hia).toNat) W := fun W => by
        rw [run_index_string W _ a _ _ Try.underlying9, dif_pos (by omega)]; rfl
      have gb : ∀ W, (Instr.index 9 (.string b) (.int .i64 (i : Nat))).run Try.prog W = .ok (.int .u8 (b.get i hib).toNat) W := fun W => by
        rw [run_index_string W _ b _ _ Try.underlying9, dif_pos (by omega)]; rfl
      have ea := Lib.hid (bl_get hia)
      have eb := Lib.hid (bl_get hib)
      generalize a.get i hia = x at *
      generalize b.get i hib = y at *
      have hxy := u8_eq_int x y
      cases hd : decide (x = y) with
      | true =>
        rw [hd] at hxy
        replace hd := Lib.hid (of_decide_eq_true hd)
        go_wp2_with fail
        go_region
        all_goals
          go_wp2_with fail
        go_roundg (n + 1 - (i + 1))
        case rel =>
          refine ⟨i + 1, rfl, by go_num, by omega, fun j hj => ?_, hBw.out.drew⟩
          by_cases hji : j < i
          · exact hall.out j hji
          · obtain rfl : j = i := by omega
            rw [ea.out, eb.out, hd.out]
        case measure => omega
      | false =>
        rw [hd] at hxy
        replace hd := Lib.hid (of_decide_eq_false hd)
        go_wp2_with fail
        go_region
        all_goals
          go_wp2_with fail
        go_ret
        refine ⟨?_, hBw.out.drew⟩
        rw [cpre_at (bl a) (bl b) i (by rw [hsz1.out]; omega) (by rw [hsz2.out]; omega) hall.out (.inr (.inr (by rw [ea.out, eb.out]; intro hh; injection hh with hh; exact hd.out hh)))]
        rfl
    · obtain rfl : i = n := by omega
      have hc := Lib.hid (cpre_at (bl a) (bl b) i (by rw [hsz1.out]; omega) (by rw [hsz2.out]; omega) hall.out (by rw [hsz1.out, hsz2.out]; exact hnn.elim .inl (fun h => .inr (.inl h))))
      clear hnn
      go_wp2_with fail
      go_ret
      rw [hc.out]
      exact ⟨rfl, hBw.out⟩
end Go.Proofs.Ytmhlokomlngdmaa
