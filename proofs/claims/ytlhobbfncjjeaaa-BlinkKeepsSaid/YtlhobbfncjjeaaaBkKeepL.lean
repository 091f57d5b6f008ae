/- What BlinkKeeps says of a content: what was put last is found, going on tells all; no program in sight. -/
import Derived.Test.YtlhobbfncjjeaaaBkPairs
import Derived.Test.YtlhobbfncjjeaaaBkReadL
import Derived.Laws.Cover1
namespace Go.Proofs.Ytlhobbfncjjeaaa
theorem bl_slt : ∀ a b : List UInt8, Op.bytesLess a b = decide (Lib.compareBytes a b < 0)
  | [], [] => rfl
  | [], _ :: _ => rfl
  | _ :: _, [] => rfl
  | a :: x, b :: y => by
    unfold Op.bytesLess Lib.compareBytes
    by_cases h1 : a < b
    · simp [h1]
    · by_cases h2 : b < a
      · have : a ≠ b := fun e => UInt8.lt_irrefl a (by rw [← e] at h2; exact h2)
        simp [h1, h2, this]
      · have : a = b := UInt8.le_antisymm (UInt8.not_lt.1 h2) (UInt8.not_lt.1 h1)
        subst this
        simp [h1, bl_slt x y]
/-- Go's '<' on texts. -/
theorem less_slt (a b : Str) : Op.bytesLess a.toList b.toList = slt a b := by
  rw [ByteArray.toList_eq, ByteArray.toList_eq, bl_slt]
  rfl
theorem leq_sle (a b : Str) : (Op.bytesLess a.toList b.toList || a.toList == b.toList) = sle a b := by
  rw [less_slt]
  unfold sle
  cases h1 : slt a b
  · cases h2 : slt b a
    · have := slt_eq h1 h2
      subst this
      simp
    · have : (a.toList == b.toList) = false := by
        rw [beq_eq_false_iff_ne]
        intro e
        rw [ByteArray.toList_eq, ByteArray.toList_eq] at e
        have e2 : a = b := str_ext e
        rw [e2, slt_irrefl] at h2
        cases h2
      simp [this]
  · rw [slt_asymm h1]
    rfl
theorem find_filter {α : Type} {p q : α → Bool} : ∀ {l : List α}, (∀ x, x ∈ l → p x = true → q x = true) → (l.filter q).find? p = l.find? p
  | [], _ => rfl
  | x :: l, h => by
    have ih := find_filter (p := p) (q := q) (l := l) (fun y hy => h y (by simp [hy]))
    rw [List.filter_cons]
    cases hq : q x
    · have : p x = false := by
        cases hp : p x
        · rfl
        · rw [h x (by simp) hp] at hq; cases hq
      simp [this, ih]
    · simp only [if_true]
      rw [List.find?_cons, List.find?_cons, ih]
theorem cget_cput {C : Cont} {k v key : Str} : cget (cput C k v) key = if k = key then some v else cget C key := by
  unfold cget cput
  by_cases h : k = key
  · subst h
    rw [if_pos rfl, List.find?_append, find_none (fun p hp => by
      have := (List.mem_filter.1 hp).2
      simp [slt_ne this])]
    simp
  · rw [if_neg h, List.find?_append, List.find?_cons, decide_eq_false h]
    cases h1 : slt key k
    · have h2 : slt k key = true := by
        cases h2 : slt k key
        · exact absurd (slt_eq h2 h1) h
        · rfl
      rw [find_none (l := C.filter fun p => slt p.1 k) (fun p hp => by
        have := (List.mem_filter.1 hp).2
        have : p.1 ≠ key := fun e => by rw [e, h1] at this; cases this
        simp [this])]
      rw [find_filter (fun p _ hp => by
        simp only [decide_eq_true_eq] at hp
        rw [hp]; exact h2)]
      rfl
    · rw [find_filter (p := fun p : Str × Str => decide (p.1 = key)) (q := fun p : Str × Str => slt p.1 k) (fun p _ hp => by
        simp only [decide_eq_true_eq] at hp
        rw [hp]; exact h1)]
      rw [find_none (l := C.filter fun p => slt k p.1) (fun p hp => by
        have := (List.mem_filter.1 hp).2
        have : p.1 ≠ key := fun e => by rw [e, slt_asymm h1] at this; cases this
        simp [this])]
      cases List.find? (fun p => decide (p.1 = key)) C <;> rfl
theorem cget_cdel {C : Cont} {k key : Str} : cget (cdel C k) key = if k = key then none else cget C key := by
  unfold cget cdel
  by_cases h : k = key
  · subst h
    rw [if_pos rfl, find_none (fun p hp => by
      have := (List.mem_filter.1 hp).2
      simpa using this)]
    rfl
  · rw [if_neg h, find_filter (fun p _ hp => by
      simp only [decide_eq_true_eq] at hp
      rw [hp]
      simp [Ne.symm h])]
/-- A Put or a Delete of a key. -/
def hits (key : Str) (x : A10) : Bool := decide (x.2.1 = key) && (decide (0 ≤ x.1) && decide (x.1 ≤ 1))
/-- The last one of them, or else i. -/
def lastAt (L : List A10) (key : Str) (i : Nat) : Nat → Nat
  | 0 => i
  | k + 1 => if (L[k]?.map (hits key)).getD false then k else lastAt L key i k
theorem stepC_get {C : Cont} {x : A10} {key : Str} : cget (stepC C x) key = if hits key x then (if x.1 = 0 then some x.2.2.1 else none) else cget C key := by
  unfold stepC hits
  by_cases h0 : x.1 = 0
  · rw [if_pos h0, cget_cput]
    by_cases hk : x.2.1 = key
    · simp [hk, h0]
    · simp [hk]
  · rw [if_neg h0]
    by_cases h1 : x.1 = 1
    · rw [if_pos h1, cget_cdel]
      by_cases hk : x.2.1 = key
      · simp [hk, h1]
      · simp [hk]
    · rw [if_neg h1]
      have : (decide (0 ≤ x.1) && decide (x.1 ≤ 1)) = false := by
        by_cases h2 : 0 ≤ x.1
        · have : ¬ x.1 ≤ 1 := by omega
          simp [this]
        · simp [h2]
      simp [this]
theorem lastAt_lt {L : List A10} {key : Str} {i n : Nat} (hi : i < n) : ∀ m, m ≤ n → lastAt L key i m < n
  | 0, _ => hi
  | m + 1, h => by
    unfold lastAt
    split
    · omega
    · exact lastAt_lt hi m (by omega)
/-- What was put last, and not deleted since, is there. -/
theorem last_is {L : List A10} {key : Str} {i : Nat} {x : A10} (hx : L[i]? = some x) (hk : x.2.1 = key) : ∀ m, m ≤ L.length →
    (∃ y, L[lastAt L key i m]? = some y ∧ hits key y = true ∧ lastAt L key i m < m ∧ cget (doneC (L.take m)) key = if y.1 = 0 then some y.2.2.1 else none) ∨ (lastAt L key i m = i ∧ (∀ k y, k < m → L[k]? = some y → hits key y = false) ∧ cget (doneC (L.take m)) key = none)
  | 0, _ => .inr ⟨rfl, fun k y hk => by omega, by simp [doneC, cget]⟩
  | m + 1, h => by
    have hm : L[m]? = some L[m] := List.getElem?_eq_getElem (by omega)
    obtain ⟨z, hz⟩ : ∃ z, L[m]? = some z := ⟨_, hm⟩
    rw [take_next hz, doneC_snoc, stepC_get]
    unfold lastAt
    rw [hz]
    simp only [Option.map_some, Option.getD_some]
    by_cases hh : hits key z = true
    rotate_left
    · have hh : hits key z = false := by simpa using hh
      simp only [hh, Bool.false_eq_true, if_false]
      rcases last_is hx hk m (by omega) with ⟨y, h1, h2, h3, h4⟩ | ⟨h1, h2, h3⟩
      · exact .inl ⟨y, h1, h2, by omega, h4⟩
      · refine .inr ⟨h1, fun k y hk hy => ?_, h3⟩
        by_cases e : k = m
        · subst e
          rw [hz] at hy
          injection hy with hy
          rw [← hy]; exact hh
        · exact h2 k y (by omega) hy
    · simp only [hh, if_true]
      exact .inl ⟨z, hz, hh, by omega, rfl⟩
/-- What the law asks at act i. -/
theorem last_law {L : List A10} {i : Nat} {x y : A10} (hx : L[i]? = some x) (hy : L[lastAt L x.2.1 i L.length]? = some y) :
    (cget (doneC L) x.2.1).isSome = decide (y.1 = 0) ∧ (y.1 = 0 → (cget (doneC L) x.2.1).getD s0 = y.2.2.1) := by
  have hi := (List.getElem?_eq_some_iff.1 hx).1
  have hL : L.take L.length = L := List.take_length
  rcases last_is hx rfl L.length (Nat.le_refl _) with ⟨z, h1, h2, h3, h4⟩ | ⟨h1, h2, h3⟩
  · rw [h1] at hy
    injection hy with hy
    subst hy
    rw [hL] at h4
    rw [h4]
    by_cases h0 : z.1 = 0
    · simp [h0]
    · simp [h0]
  · rw [hL] at h3
    rw [h1, hx] at hy
    injection hy with hy
    subst hy
    have h4 := h2 i x hi hx
    have h5 : ¬ x.1 = 0 := by
      intro h0
      unfold hits at h4
      simp [h0] at h4
    rw [h3]
    simp [h5]
/-- Going on from key to key. -/
theorem csort_lt {C : Cont} (hC : CSort C) {i j : Nat} {p q : Str × Str} (hij : i < j) (hp : C[i]? = some p) (hq : C[j]? = some q) : slt p.1 q.1 = true := by
  obtain ⟨h1, rfl⟩ := List.getElem?_eq_some_iff.1 hp
  obtain ⟨h2, rfl⟩ := List.getElem?_eq_some_iff.1 hq
  exact (List.pairwise_iff_getElem.1 hC) i j h1 h2 hij
theorem cnext_at : ∀ {C : Cont} {k : Str} {after : Bool} {n : Nat}, (∀ i p, i < n → C[i]? = some p → abv k after p.1 = false) → (∀ p, C[n]? = some p → abv k after p.1 = true) → cnext C k after = C[n]?
  | [], k, after, n, _, _ => by simp [cnext]
  | p :: C, k, after, 0, _, h => by
    have := h p rfl
    unfold cnext
    rw [List.find?_cons, show (if after = true then slt k p.1 else sle k p.1) = true from this]
    rfl
  | p :: C, k, after, n + 1, h, h' => by
    have h0 := h 0 p (by omega) rfl
    unfold cnext
    rw [List.find?_cons, show (if after = true then slt k p.1 else sle k p.1) = false from h0]
    exact cnext_at (C := C) (n := n) (fun i q hi hq => h (i + 1) q (by omega) (by simpa using hq)) (fun q hq => h' q (by simpa using hq))
theorem cnext_first (C : Cont) : cnext C s0 false = C[0]? := cnext_at (fun i p hi => by omega) (fun p _ => sle_s0 p.1)
theorem cnext_next {C : Cont} (hC : CSort C) {n : Nat} {p : Str × Str} (hp : C[n]? = some p) : cnext C p.1 true = C[n + 1]? := by
  refine cnext_at (fun i q hi hq => ?_) (fun q hq => ?_)
  · unfold abv
    simp only [if_true]
    by_cases e : i = n
    · subst e
      rw [hp] at hq
      injection hq with hq
      rw [← hq, slt_irrefl]
    · exact slt_asymm (csort_lt hC (by omega) hq hp)
  · exact csort_lt hC (by omega) hp hq
theorem cget_at {C : Cont} (hC : CSort C) {n : Nat} {p : Str × Str} (hp : C[n]? = some p) : cget C p.1 = some p.2 := by
  unfold cget
  have : C.find? (fun q => decide (q.1 = p.1)) = some p := by
    obtain ⟨h1, h2⟩ := List.getElem?_eq_some_iff.1 hp
    refine List.find?_eq_some_iff_append.2 ⟨by simp, C.take n, C.drop (n + 1), by rw [← h2]; simp, fun q hq => ?_⟩
    obtain ⟨i, hi⟩ := List.mem_iff_getElem?.1 hq
    have hin : i < n := by
      have := (List.getElem?_eq_some_iff.1 hi).1
      simp only [List.length_take] at this
      omega
    rw [List.getElem?_take, if_pos hin] at hi
    simp [slt_ne (csort_lt hC hin hi hp)]
  rw [this]
  rfl
theorem doneC_len : ∀ {L : List A10}, (∀ L', CSort (doneC L')) → (doneC L).length ≤ L.length := by
  intro L h
  have : ∀ n, n ≤ L.length → (doneC (L.take n)).length ≤ n := by
    intro n
    induction n with
    | zero => intro _; simp [doneC]
    | succ n ih =>
      intro hn
      have hx : L[n]? = some L[n] := List.getElem?_eq_getElem (by omega)
      rw [take_next hx, doneC_snoc]
      have h1 := ih (by omega)
      have h2 := h (L.take n)
      unfold stepC
      split
      · rw [cput_len h2]; split <;> omega
      · split
        · have := (cdel_len h2 L[n].2.1).1
          rw [this]; split <;> omega
        · omega
  have h2 := this L.length (Nat.le_refl _)
  rw [List.take_length] at h2
  exact h2
end Go.Proofs.Ytlhobbfncjjeaaa
