/- The order of texts, byte by byte; pairs that rise by their keys: what is found, put, deleted, next; no program in sight. A trie as a row of nodes with their whole paths: who lies under whom, what a subtree holds, how many nodes it has; no program in sight. A trie: how many nodes lie under one, the next key at and below a node; no program in sight. A trie turns: a value is set, a node is split, a leaf comes and goes, a node takes its only kid in; no program in sight. A trie turns: a node is split, a leaf goes, a node takes its only kid in; no program in sight. A trie as it must be: its nodes are the empty text, the keys and where two keys part; no program in sight. -/
import Derived.Lib.Bytealg
namespace Go.Proofs.YtmhlokomlngdmaaGreat
open Go.Lib
/-- Three ways: -1, 0, 1. -/
theorem cb_range : ∀ a b : List UInt8, compareBytes a b = -1 ∨ compareBytes a b = 0 ∨ compareBytes a b = 1
  | [], [] => .inr (.inl rfl)
  | [], _ :: _ => .inl rfl
  | _ :: _, [] => .inr (.inr rfl)
  | a :: as, b :: bs => by
    unfold compareBytes
    split
    · exact .inl rfl
    · split
      · exact .inr (.inr rfl)
      · exact cb_range as bs
theorem cb_swap : ∀ a b : List UInt8, compareBytes b a = - compareBytes a b
  | [], [] => rfl
  | [], _ :: _ => rfl
  | _ :: _, [] => rfl
  | a :: as, b :: bs => by
    unfold compareBytes
    by_cases h1 : a < b
    · have h2 : ¬ b < a := fun h => UInt8.lt_irrefl a (UInt8.lt_trans h1 h)
      simp [h1, h2]
    · by_cases h2 : b < a
      · simp [h1, h2]
      · simp only [h1, h2, if_false]
        exact cb_swap as bs
theorem cb_eq : ∀ a b : List UInt8, compareBytes a b = 0 ↔ a = b
  | [], [] => by simp [compareBytes]
  | [], _ :: _ => by simp [compareBytes]
  | _ :: _, [] => by simp [compareBytes]
  | a :: as, b :: bs => by
    unfold compareBytes
    by_cases h1 : a < b
    · have : a ≠ b := fun h => UInt8.lt_irrefl a (by rw [← h] at h1; exact h1)
      simp [h1, this]
    · by_cases h2 : b < a
      · have : a ≠ b := fun h => UInt8.lt_irrefl a (by rw [← h] at h2; exact h2)
        simp [h1, h2, this]
      · have : a = b := UInt8.le_antisymm (UInt8.not_lt.1 h2) (UInt8.not_lt.1 h1)
        rw [if_neg h1, if_neg h2, this]
        simp only [List.cons.injEq, true_and]
        exact cb_eq as bs
theorem cb_trans : ∀ a b c : List UInt8, compareBytes a b = -1 → compareBytes b c = -1 → compareBytes a c = -1
  | [], [], _, h, _ => by simp [compareBytes] at h
  | [], _ :: _, [], _, h => by simp [compareBytes] at h
  | [], _ :: _, _ :: _, _, _ => rfl
  | _ :: _, [], _, h, _ => by simp [compareBytes] at h
  | _ :: _, _ :: _, [], _, h => by simp [compareBytes] at h
  | a :: as, b :: bs, c :: cs, h, h' => by
    unfold compareBytes at h h' ⊢
    by_cases h1 : a < b
    · by_cases h2 : b < c
      · rw [if_pos (UInt8.lt_trans h1 h2)]
      · rw [if_neg h2] at h'
        by_cases h3 : c < b
        · rw [if_pos h3] at h'; simp at h'
        · have : b = c := UInt8.le_antisymm (UInt8.not_lt.1 h3) (UInt8.not_lt.1 h2)
          rw [← this, if_pos h1]
    · rw [if_neg h1] at h
      by_cases h2 : b < a
      · rw [if_pos h2] at h; simp at h
      · have e : a = b := UInt8.le_antisymm (UInt8.not_lt.1 h2) (UInt8.not_lt.1 h1)
        subst e
        rw [if_neg h2] at h
        by_cases h3 : a < c
        · rw [if_pos h3]
        · rw [if_neg h3] at h' ⊢
          by_cases h4 : c < a
          · rw [if_pos h4] at h'; simp at h'
          · rw [if_neg h4] at h' ⊢
            exact cb_trans as bs cs h h'
abbrev Str := ByteArray
def scmp (a b : Str) : Int := compareBytes a.data.toList b.data.toList
/-- Less. -/
def slt (a b : Str) : Bool := decide (scmp a b < 0)
theorem scmp_range (a b : Str) : scmp a b = -1 ∨ scmp a b = 0 ∨ scmp a b = 1 := cb_range _ _
theorem scmp_swap (a b : Str) : scmp b a = - scmp a b := cb_swap _ _
theorem str_ext {a b : Str} (h : a.data.toList = b.data.toList) : a = b := by
  obtain ⟨⟨x⟩⟩ := a
  obtain ⟨⟨y⟩⟩ := b
  simp at h
  rw [h]
theorem scmp_eq (a b : Str) : scmp a b = 0 ↔ a = b :=
  ⟨fun h => str_ext ((cb_eq _ _).1 h), fun h => (cb_eq _ _).2 (by rw [h])⟩
theorem slt_irrefl (a : Str) : slt a a = false := by
  have := (scmp_eq a a).2 rfl
  simp [slt, this]
theorem slt_trans {a b c : Str} (h : slt a b = true) (h' : slt b c = true) : slt a c = true := by
  simp only [slt, decide_eq_true_eq] at *
  have h1 : scmp a b = -1 := by rcases scmp_range a b with e | e | e <;> omega
  have h2 : scmp b c = -1 := by rcases scmp_range b c with e | e | e <;> omega
  have := cb_trans _ _ _ h1 h2
  unfold scmp
  omega
theorem slt_asymm {a b : Str} (h : slt a b = true) : slt b a = false := by
  simp only [slt, decide_eq_true_eq, decide_eq_false_iff_not] at *
  rw [scmp_swap]
  omega
theorem slt_eq {a b : Str} (h : slt a b = false) (h' : slt b a = false) : a = b := by
  simp only [slt, decide_eq_false_iff_not] at *
  rw [scmp_swap] at h'
  exact (scmp_eq a b).1 (by omega)
/-- Not above. -/
def sle (a b : Str) : Bool := !slt b a
theorem sle_iff {a b : Str} : sle a b = true ↔ slt b a = false := by simp [sle]
theorem sle_refl (a : Str) : sle a a = true := by simp [sle, slt_irrefl]
theorem slt_sle {a b : Str} (h : slt a b = true) : sle a b = true := by simp [sle, slt_asymm h]
theorem sle_slt {a b c : Str} (h : sle a b = true) (h' : slt b c = true) : slt a c = true := by
  rw [sle_iff] at h
  cases h1 : slt a b
  · rw [slt_eq h1 h]; exact h'
  · exact slt_trans h1 h'
theorem slt_sle' {a b c : Str} (h : slt a b = true) (h' : sle b c = true) : slt a c = true := by
  rw [sle_iff] at h'
  cases h1 : slt b c
  · rw [← slt_eq h1 h']; exact h
  · exact slt_trans h h1
theorem sle_trans {a b c : Str} (h : sle a b = true) (h' : sle b c = true) : sle a c = true := by
  cases h1 : slt a b
  · rw [sle_iff] at h
    rw [slt_eq h1 h]; exact h'
  · exact slt_sle (slt_sle' h1 h')
theorem sle_or {a b : Str} (h : sle a b = true) : a = b ∨ slt a b = true := by
  rw [sle_iff] at h
  cases h1 : slt a b
  · exact .inl (slt_eq h1 h)
  · exact .inr rfl
theorem slt_ne {a b : Str} (h : slt a b = true) : a ≠ b := fun e => by
  rw [e, slt_irrefl] at h; cases h
abbrev s0 : Str := ByteArray.empty
theorem sle_s0 (a : Str) : sle s0 a = true := by
  rw [sle_iff]
  refine decide_eq_false ?_
  show ¬ compareBytes a.data.toList [] < 0
  cases a.data.toList <;> simp [compareBytes]
theorem slt_s0 (a : Str) : slt a s0 = false := sle_iff.1 (sle_s0 a)
abbrev Hd := Int × Int
abbrev Cont := List (Str × Str)
def CSort (C : Cont) : Prop := C.Pairwise fun a b => slt a.1 b.1 = true
def cget (C : Cont) (k : Str) : Option Str := (C.find? fun p => decide (p.1 = k)).map (·.2)
def cput (C : Cont) (k v : Str) : Cont := (C.filter fun p => slt p.1 k) ++ (k, v) :: C.filter fun p => slt k p.1
def cdel (C : Cont) (k : Str) : Cont := C.filter fun p => !decide (p.1 = k)
def cnext (C : Cont) (k : Str) (after : Bool) : Option (Str × Str) := C.find? fun p => if after then slt k p.1 else sle k p.1
theorem filter_all {α : Type} {p : α → Bool} {l : List α} (h : ∀ x, x ∈ l → p x = true) : l.filter p = l := List.filter_eq_self.2 h
theorem filter_none {α : Type} {p : α → Bool} {l : List α} (h : ∀ x, x ∈ l → p x = false) : l.filter p = [] := List.filter_eq_nil_iff.2 fun x hx => by simp [h x hx]
theorem find_none {α : Type} {p : α → Bool} {l : List α} (h : ∀ x, x ∈ l → p x = false) : l.find? p = none := List.find?_eq_none.2 fun x hx => by simp [h x hx]
theorem find_filter {α : Type} {p q : α → Bool} : ∀ {l : List α}, (∀ x, x ∈ l → p x = true → q x = true) → (l.filter q).find? p = l.find? p
  | [], _ => rfl
  | x :: l, h => by
    have ih := find_filter (p := p) (q := q) (l := l) (fun y hy => h y (by simp [hy]))
    rw [List.filter_cons]
    cases hq : q x
    · have : p x = false := by
        cases hp : p x
        · rfl
        · rw [h x (by simp) hp] at hq; cases hq
      simp [this, ih]
    · simp only [if_true]
      rw [List.find?_cons, List.find?_cons, ih]
theorem cget_cput {C : Cont} {k v key : Str} : cget (cput C k v) key = if k = key then some v else cget C key := by
  unfold cget cput
  by_cases h : k = key
  · subst h
    rw [if_pos rfl, List.find?_append, find_none (fun p hp => by
      have := (List.mem_filter.1 hp).2
      simp [slt_ne this])]
    simp
  · rw [if_neg h, List.find?_append, List.find?_cons, decide_eq_false h]
    cases h1 : slt key k
    · have h2 : slt k key = true := by
        cases h2 : slt k key
        · exact absurd (slt_eq h2 h1) h
        · rfl
      rw [find_none (l := C.filter fun p => slt p.1 k) (fun p hp => by
        have := (List.mem_filter.1 hp).2
        have : p.1 ≠ key := fun e => by rw [e, h1] at this; cases this
        simp [this])]
      rw [find_filter (fun p _ hp => by
        simp only [decide_eq_true_eq] at hp
        rw [hp]; exact h2)]
      rfl
    · rw [find_filter (p := fun p : Str × Str => decide (p.1 = key)) (q := fun p : Str × Str => slt p.1 k) (fun p _ hp => by
        simp only [decide_eq_true_eq] at hp
        rw [hp]; exact h1)]
      rw [find_none (l := C.filter fun p => slt k p.1) (fun p hp => by
        have := (List.mem_filter.1 hp).2
        have : p.1 ≠ key := fun e => by rw [e, slt_asymm h1] at this; cases this
        simp [this])]
      cases List.find? (fun p => decide (p.1 = key)) C <;> rfl
theorem cget_cdel {C : Cont} {k key : Str} : cget (cdel C k) key = if k = key then none else cget C key := by
  unfold cget cdel
  by_cases h : k = key
  · subst h
    rw [if_pos rfl, find_none (fun p hp => by
      have := (List.mem_filter.1 hp).2
      simpa using this)]
    rfl
  · rw [if_neg h, find_filter (fun p _ hp => by
      simp only [decide_eq_true_eq] at hp
      rw [hp]
      simp [Ne.symm h])]
def abv (key : Str) (after : Bool) (x : Str) : Bool := if after then slt key x else sle key x
theorem csort_lt {C : Cont} (hC : CSort C) {i j : Nat} {p q : Str × Str} (hij : i < j) (hp : C[i]? = some p) (hq : C[j]? = some q) : slt p.1 q.1 = true := by
  obtain ⟨h1, rfl⟩ := List.getElem?_eq_some_iff.1 hp
  obtain ⟨h2, rfl⟩ := List.getElem?_eq_some_iff.1 hq
  exact (List.pairwise_iff_getElem.1 hC) i j h1 h2 hij
theorem cnext_at : ∀ {C : Cont} {k : Str} {after : Bool} {n : Nat}, (∀ i p, i < n → C[i]? = some p → abv k after p.1 = false) → (∀ p, C[n]? = some p → abv k after p.1 = true) → cnext C k after = C[n]?
  | [], k, after, n, _, _ => by simp [cnext]
  | p :: C, k, after, 0, _, h => by
    have := h p rfl
    unfold cnext
    rw [List.find?_cons, show (if after = true then slt k p.1 else sle k p.1) = true from this]
    rfl
  | p :: C, k, after, n + 1, h, h' => by
    have h0 := h 0 p (by omega) rfl
    unfold cnext
    rw [List.find?_cons, show (if after = true then slt k p.1 else sle k p.1) = false from h0]
    exact cnext_at (C := C) (n := n) (fun i q hi hq => h (i + 1) q (by omega) (by simpa using hq)) (fun q hq => h' q (by simpa using hq))
theorem cnext_first (C : Cont) : cnext C s0 false = C[0]? := cnext_at (fun i p hi => by omega) (fun p _ => sle_s0 p.1)
theorem cnext_next {C : Cont} (hC : CSort C) {n : Nat} {p : Str × Str} (hp : C[n]? = some p) : cnext C p.1 true = C[n + 1]? := by
  refine cnext_at (fun i q hi hq => ?_) (fun q hq => ?_)
  · unfold abv
    simp only [if_true]
    by_cases e : i = n
    · subst e
      rw [hp] at hq
      injection hq with hq
      rw [← hq, slt_irrefl]
    · exact slt_asymm (csort_lt hC (by omega) hq hp)
  · exact csort_lt hC (by omega) hp hq
theorem cget_at {C : Cont} (hC : CSort C) {n : Nat} {p : Str × Str} (hp : C[n]? = some p) : cget C p.1 = some p.2 := by
  unfold cget
  have : C.find? (fun q => decide (q.1 = p.1)) = some p := by
    obtain ⟨h1, h2⟩ := List.getElem?_eq_some_iff.1 hp
    refine List.find?_eq_some_iff_append.2 ⟨by simp, C.take n, C.drop (n + 1), by rw [← h2]; simp, fun q hq => ?_⟩
    obtain ⟨i, hi⟩ := List.mem_iff_getElem?.1 hq
    have hin : i < n := by
      have := (List.getElem?_eq_some_iff.1 hi).1
      simp only [List.length_take] at this
      omega
    rw [List.getElem?_take, if_pos hin] at hi
    simp [slt_ne (csort_lt hC hin hi hp)]
  rw [this]
  rfl
theorem csort_parts {C : Cont} (h : CSort C) (k : Str) : (cget C k = none ∧ C.length = (C.filter fun p => slt p.1 k).length + (C.filter fun p => slt k p.1).length) ∨ ((∃ v, cget C k = some v) ∧ C.length = (C.filter fun p => slt p.1 k).length + (C.filter fun p => slt k p.1).length + 1) := by
  induction C with
  | nil => exact .inl ⟨rfl, rfl⟩
  | cons p C ih =>
    obtain ⟨h1, h2⟩ := List.pairwise_cons.1 h
    by_cases e : p.1 = k
    · right
      refine ⟨⟨p.2, by simp [cget, e]⟩, ?_⟩
      have a1 : C.filter (fun q => slt q.1 k) = [] := filter_none fun q hq => slt_asymm (by rw [← e]; exact h1 q hq)
      have a2 : C.filter (fun q => slt k q.1) = C := filter_all fun q hq => by rw [← e]; exact h1 q hq
      rw [List.filter_cons, List.filter_cons, a1, a2, if_neg (by rw [e, slt_irrefl]; simp), if_neg (by rw [e, slt_irrefl]; simp)]
      simp
    · have hg : cget (p :: C) k = cget C k := by unfold cget; rw [List.find?_cons, decide_eq_false e]
      rw [hg]
      have hx : (slt p.1 k = true ∧ slt k p.1 = false) ∨ (slt p.1 k = false ∧ slt k p.1 = true) := by
        cases h3 : slt p.1 k
        · cases h4 : slt k p.1
          · exact absurd (slt_eq h3 h4) e
          · exact .inr ⟨rfl, rfl⟩
        · exact .inl ⟨rfl, slt_asymm h3⟩
      rw [List.filter_cons, List.filter_cons]
      rcases ih h2 with ⟨g, l⟩ | ⟨g, l⟩
      · refine .inl ⟨g, ?_⟩
        rcases hx with ⟨x1, x2⟩ | ⟨x1, x2⟩ <;> simp [x1, x2] <;> omega
      · refine .inr ⟨g, ?_⟩
        rcases hx with ⟨x1, x2⟩ | ⟨x1, x2⟩ <;> simp [x1, x2] <;> omega
theorem cput_len {C : Cont} (h : CSort C) (k v : Str) : (cput C k v).length = if (cget C k).isSome then C.length else C.length + 1 := by
  unfold cput
  rcases csort_parts h k with ⟨g, l⟩ | ⟨⟨x, g⟩, l⟩ <;> rw [g] <;> simp <;> omega
theorem cdel_len {C : Cont} (h : CSort C) (k : Str) : (cdel C k).length = (if (cget C k).isSome then C.length - 1 else C.length) ∧ ((cget C k).isSome = true → 1 ≤ C.length) := by
  have e : cdel C k = C.filter (fun p => slt p.1 k || slt k p.1) := by
    unfold cdel
    refine List.filter_congr fun p _ => ?_
    by_cases e : p.1 = k
    · rw [e, slt_irrefl]; simp
    · rw [decide_eq_false e]
      cases h3 : slt p.1 k
      · cases h4 : slt k p.1
        · exact absurd (slt_eq h3 h4) e
        · rfl
      · rfl
  have h1 : (C.filter (fun p => slt p.1 k || slt k p.1)).length = (C.filter fun p => slt p.1 k).length + (C.filter fun p => slt k p.1).length := by
    clear h e
    induction C with
    | nil => rfl
    | cons p C ih =>
      rw [List.filter_cons, List.filter_cons, List.filter_cons]
      cases h3 : slt p.1 k
      · cases h4 : slt k p.1 <;> simp [ih]; omega
      · have h4 := slt_asymm h3
        rw [h4]
        simp [ih]; omega
  rw [e, h1]
  rcases csort_parts h k with ⟨g, l⟩ | ⟨⟨x, g⟩, l⟩ <;> rw [g] <;> simp <;> omega
theorem cs_put {C : Cont} (h : CSort C) (k v : Str) : CSort (cput C k v) := by
  unfold cput CSort
  refine List.pairwise_append.2 ⟨List.Pairwise.sublist List.filter_sublist h, List.pairwise_cons.2 ⟨fun p hp => (List.mem_filter.1 hp).2, List.Pairwise.sublist List.filter_sublist h⟩, fun p hp q hq => ?_⟩
  have h1 := (List.mem_filter.1 hp).2
  rcases List.mem_cons.1 hq with rfl | hq
  · exact h1
  · exact slt_trans h1 (List.mem_filter.1 hq).2
theorem cs_del {C : Cont} (h : CSort C) (k : Str) : CSort (cdel C k) := List.Pairwise.sublist List.filter_sublist h
/-! ### Texts as rows of bytes -/
abbrev Byt := List UInt8
abbrev bl (k : Str) : Byt := k.data.toList
abbrev bs (l : Byt) : Str := ⟨l.toArray⟩
theorem bl_bs (l : Byt) : bl (bs l) = l := by simp [bl]
theorem bs_bl (k : Str) : bs (bl k) = k := by cases k; simp [bl, bs]
theorem bl_inj {a b : Str} (h : bl a = bl b) : a = b := by rw [← bs_bl a, ← bs_bl b, h]
theorem bl_app (a b : Str) : bl (a ++ b) = bl a ++ bl b := by
  show (a ++ b).data.toList = _
  rw [ByteArray.data_append, Array.toList_append]
theorem cb_app : ∀ (p a b : Byt), compareBytes (p ++ a) (p ++ b) = compareBytes a b
  | [], _, _ => rfl
  | x :: p, a, b => by
    have h : compareBytes (x :: (p ++ a)) (x :: (p ++ b)) = compareBytes (p ++ a) (p ++ b) := by
      rw [compareBytes, if_neg (UInt8.lt_irrefl x), if_neg (UInt8.lt_irrefl x)]
    exact h.trans (cb_app p a b)
theorem cb_lt {x y : UInt8} (h : x < y) (a b : Byt) : compareBytes (x :: a) (y :: b) = -1 := by
  unfold compareBytes
  rw [if_pos h]
theorem cb_nil (x : UInt8) (a : Byt) : compareBytes [] (x :: a) = -1 := rfl
/-- Two texts that part at a byte. -/
theorem slt_part {a b : Str} {p s t : Byt} {x y : UInt8} (ha : bl a = p ++ x :: s) (hb : bl b = p ++ y :: t) (h : x < y) : slt a b = true := by
  refine decide_eq_true ?_
  show compareBytes (bl a) (bl b) < 0
  rw [ha, hb, cb_app, cb_lt h]
  omega
theorem slt_pre {a b : Str} {t : Byt} {y : UInt8} (hb : bl b = bl a ++ y :: t) : slt a b = true := by
  refine decide_eq_true ?_
  show compareBytes (bl a) (bl b) < 0
  rw [hb]
  have := cb_app (bl a) [] (y :: t)
  rw [List.append_nil] at this
  rw [this, cb_nil]
  omega
/-- Rows that rise and have the same pairs are the same. -/
theorem csort_ext : ∀ {A B : Cont}, CSort A → CSort B → (∀ x, x ∈ A ↔ x ∈ B) → A = B
  | [], [], _, _, _ => rfl
  | [], b :: B, _, _, h => absurd ((h b).2 (by simp)) (by simp)
  | a :: A, [], _, _, h => absurd ((h a).1 (by simp)) (by simp)
  | a :: A, b :: B, hA, hB, h => by
    obtain ⟨a1, a2⟩ := List.pairwise_cons.1 hA
    obtain ⟨b1, b2⟩ := List.pairwise_cons.1 hB
    have e : a = b := by
      rcases List.mem_cons.1 ((h a).1 (by simp)) with e | e
      · exact e
      · rcases List.mem_cons.1 ((h b).2 (by simp)) with e' | e'
        · exact e'.symm
        · have h1 := b1 a e
          have h2 := a1 b e'
          rw [slt_asymm h1] at h2
          cases h2
    subst e
    congr 1
    refine csort_ext a2 b2 fun x => ⟨fun hx => ?_, fun hx => ?_⟩
    · rcases List.mem_cons.1 ((h x).1 (by simp [hx])) with e | e
      · have := a1 x hx
        rw [e, slt_irrefl] at this
        cases this
      · exact e
    · rcases List.mem_cons.1 ((h x).2 (by simp [hx])) with e | e
      · have := b1 x hx
        rw [e, slt_irrefl] at this
        cases this
      · exact e
theorem cget_iff {C : Cont} (h : CSort C) {k v : Str} : cget C k = some v ↔ (k, v) ∈ C := by
  constructor
  · intro hg
    unfold cget at hg
    cases hf : C.find? (fun p => decide (p.1 = k)) with
    | none => rw [hf] at hg; cases hg
    | some p =>
      rw [hf] at hg
      obtain ⟨h1, h2⟩ := List.find?_eq_some_iff_append.1 hf
      simp only [decide_eq_true_eq] at h1
      simp only [Option.map_some, Option.some.injEq] at hg
      have := List.mem_of_find?_eq_some hf
      rw [← h1, ← hg]
      exact this
  · intro hm
    obtain ⟨n, hn⟩ := List.mem_iff_getElem?.1 hm
    exact cget_at h hn
theorem cget_none_iff {C : Cont} (h : CSort C) {k : Str} : cget C k = none ↔ ∀ v, (k, v) ∉ C := by
  constructor
  · intro hg v hv
    rw [(cget_iff h).2 hv] at hg
    cases hg
  · intro hn
    cases hg : cget C k with
    | none => rfl
    | some v => exact absurd ((cget_iff h).1 hg) (hn v)
theorem mem_cput {C : Cont} (h : CSort C) {k v k' v' : Str} : (k', v') ∈ cput C k v ↔ if k = k' then v' = v else (k', v') ∈ C := by
  rw [← cget_iff (cs_put h k v), cget_cput]
  split
  · constructor
    · intro e; injection e with e; exact e.symm
    · intro e; rw [e]
  · exact cget_iff h
theorem mem_cdel {C : Cont} (h : CSort C) {k k' v' : Str} : (k', v') ∈ cdel C k ↔ k ≠ k' ∧ (k', v') ∈ C := by
  rw [← cget_iff (cs_del h k), cget_cdel]
  by_cases e : k = k'
  · simp [e]
  · rw [if_neg e, cget_iff h]
    simp [e]
end Go.Proofs.YtmhlokomlngdmaaGreat
namespace Go.Proofs.YtmhlokomlngdmaaGreat
abbrev KL := List (UInt8 × Hd)
def KSort (L : KL) : Prop := L.Pairwise fun a b => a.1 < b.1
def kget (L : KL) (b : UInt8) : Option Hd := (L.find? fun x => decide (x.1 = b)).map (·.2)
def kput (L : KL) (b : UInt8) (h : Hd) : KL := (L.filter fun x => decide (x.1 < b)) ++ (b, h) :: L.filter fun x => decide (b < x.1)
def kdel (L : KL) (b : UInt8) : KL := L.filter fun x => !decide (x.1 = b)
def kfrom (L : KL) (i : Nat) : Option (UInt8 × Hd) := L.find? fun x => decide (i ≤ x.1.toNat)
theorem ks_uniq : ∀ {L : KL}, KSort L → ∀ {b h h'}, (b, h) ∈ L → (b, h') ∈ L → h = h'
  | [], _, _, _, _, hm, _ => by cases hm
  | y :: L, hs, b, h, h', hm, hm' => by
    obtain ⟨h1, h2⟩ := List.pairwise_cons.1 hs
    rcases List.mem_cons.1 hm with e | e <;> rcases List.mem_cons.1 hm' with e' | e'
    · have e2 := e.trans e'.symm; injection e2
    · have := h1 _ e'; rw [← e] at this; exact absurd this (UInt8.lt_irrefl _)
    · have := h1 _ e; rw [← e'] at this; exact absurd this (UInt8.lt_irrefl _)
    · exact ks_uniq h2 e e'
theorem ks_put {L : KL} (hs : KSort L) (b : UInt8) (h : Hd) : KSort (kput L b h) := by
  unfold kput KSort
  refine List.pairwise_append.2 ⟨List.Pairwise.sublist List.filter_sublist hs, List.pairwise_cons.2 ⟨fun p hp => by simpa using (List.mem_filter.1 hp).2, List.Pairwise.sublist List.filter_sublist hs⟩, fun p hp q hq => ?_⟩
  have h1 : p.1 < b := by simpa using (List.mem_filter.1 hp).2
  rcases List.mem_cons.1 hq with rfl | hq
  · exact h1
  · exact UInt8.lt_trans h1 (by simpa using (List.mem_filter.1 hq).2)
theorem ks_del {L : KL} (hs : KSort L) (b : UInt8) : KSort (kdel L b) := List.Pairwise.sublist List.filter_sublist hs
theorem kget_iff {L : KL} (hs : KSort L) {b : UInt8} {h : Hd} : kget L b = some h ↔ (b, h) ∈ L := by
  unfold kget
  constructor
  · intro hg
    cases hf : L.find? (fun x => decide (x.1 = b)) with
    | none => rw [hf] at hg; cases hg
    | some y =>
      rw [hf] at hg
      simp only [Option.map_some, Option.some.injEq] at hg
      have h1 := List.find?_some hf
      simp only [decide_eq_true_eq] at h1
      have := List.mem_of_find?_eq_some hf
      rw [← h1, ← hg]
      exact this
  · intro hm
    cases hf : L.find? (fun x => decide (x.1 = b)) with
    | none =>
      have := List.find?_eq_none.1 hf _ hm
      simp at this
    | some y =>
      have h1 := List.find?_some hf
      simp only [decide_eq_true_eq] at h1
      have h2 := List.mem_of_find?_eq_some hf
      rw [← h1] at hm
      have := ks_uniq hs h2 hm
      simp [this]
theorem kget_none_iff {L : KL} {b : UInt8} : kget L b = none ↔ ∀ y, y ∈ L → y.1 ≠ b := by
  unfold kget
  rw [Option.map_eq_none_iff, List.find?_eq_none]
  simp
theorem u8_tri (a b : UInt8) : a < b ∨ a = b ∨ b < a := by
  by_cases h1 : a < b
  · exact .inl h1
  · by_cases h2 : b < a
    · exact .inr (.inr h2)
    · exact .inr (.inl (UInt8.le_antisymm (UInt8.not_lt.1 h2) (UInt8.not_lt.1 h1)))
theorem mem_kput {L : KL} {b : UInt8} {h : Hd} {y : UInt8 × Hd} : y ∈ kput L b h ↔ y = (b, h) ∨ (y.1 ≠ b ∧ y ∈ L) := by
  unfold kput
  rw [List.mem_append, List.mem_cons, List.mem_filter, List.mem_filter]
  simp only [decide_eq_true_eq]
  constructor
  · rintro (⟨h1, h2⟩ | h1 | ⟨h1, h2⟩)
    · exact .inr ⟨UInt8.ne_of_lt h2, h1⟩
    · exact .inl h1
    · exact .inr ⟨fun e => UInt8.ne_of_lt h2 e.symm, h1⟩
  · rintro (h1 | ⟨h1, h2⟩)
    · exact .inr (.inl h1)
    · rcases u8_tri y.1 b with e | e | e
      · exact .inl ⟨h2, e⟩
      · exact absurd e h1
      · exact .inr (.inr ⟨h2, e⟩)
theorem mem_kdel {L : KL} {b : UInt8} {y : UInt8 × Hd} : y ∈ kdel L b ↔ y.1 ≠ b ∧ y ∈ L := by
  unfold kdel
  rw [List.mem_filter]
  simp [and_comm]
structure AN where
  path : Byt
  pre : Str
  val : Option Str
  kids : KL
  nb : Nat
abbrev AF := List (Hd × AN)
structure AOK (F : AF) (r : Hd) : Prop where
  nd : (F.map (·.1)).Nodup
  pd : (F.map (·.2.path)).Nodup
  root : ∃ n, (r, n) ∈ F ∧ n.path = [] ∧ n.pre = s0
  dn : ∀ x, x ∈ F → ∀ y, y ∈ x.2.kids → ∃ m, (y.2, m) ∈ F ∧ m.path = x.2.path ++ y.1 :: bl m.pre
  up : ∀ x, x ∈ F → x.1 = r ∨ ∃ z, z ∈ F ∧ ∃ b, (b, x.1) ∈ z.2.kids
  srt : ∀ x, x ∈ F → KSort x.2.kids
theorem nodup_inj {α β : Type} {f : α → β} : ∀ {L : List α}, (L.map f).Nodup → ∀ {x y}, x ∈ L → y ∈ L → f x = f y → x = y
  | [], _, _, _, hx, _, _ => by cases hx
  | a :: L, h, x, y, hx, hy, e => by
    rw [List.map_cons, List.nodup_cons] at h
    rcases List.mem_cons.1 hx with e1 | h1 <;> rcases List.mem_cons.1 hy with e2 | h2
    · rw [e1, e2]
    · exact absurd (List.mem_map.2 ⟨y, h2, by rw [← e, e1]⟩ : f a ∈ L.map f) h.1
    · exact absurd (List.mem_map.2 ⟨x, h1, by rw [e, e2]⟩ : f a ∈ L.map f) h.1
    · exact nodup_inj h.2 h1 h2 e
section
variable {F : AF} {r : Hd} {C : Cont}
theorem AOK.un (h : AOK F r) {x z : Hd × AN} (hx : x ∈ F) (hz : z ∈ F) (e : x.1 = z.1) : x = z := nodup_inj h.nd hx hz e
theorem AOK.unp (h : AOK F r) {x z : Hd × AN} (hx : x ∈ F) (hz : z ∈ F) (e : x.2.path = z.2.path) : x = z := nodup_inj h.pd hx hz e
/-- Who lies under a node is it, or lies under one of its kids. -/
theorem AOK.cover (h : AOK F r) : ∀ (n : Nat) (x z : Hd × AN), z.2.path.length ≤ n → x ∈ F → z ∈ F → x.2.path <+: z.2.path →
    z = x ∨ ∃ y, y ∈ x.2.kids ∧ ∃ m, (y.2, m) ∈ F ∧ m.path = x.2.path ++ y.1 :: bl m.pre ∧ m.path <+: z.2.path := by
  intro n
  induction n with
  | zero =>
    intro x z hl hx hz hp
    have hz0 : z.2.path = [] := List.eq_nil_of_length_eq_zero (by omega)
    rw [hz0] at hp
    have hx0 : x.2.path = [] := List.prefix_nil.1 hp
    exact .inl (h.unp hz hx (by rw [hz0, hx0]))
  | succ n ih =>
    intro x z hl hx hz hp
    rcases h.up z hz with hr | ⟨p, hpF, b, hb⟩
    · obtain ⟨n0, hn0, hp0, _⟩ := h.root
      have hz0 : z.2.path = [] := by
        have := h.un hz hn0 hr
        rw [this]; exact hp0
      rw [hz0] at hp
      have hx0 : x.2.path = [] := List.prefix_nil.1 hp
      exact .inl (h.unp hz hx (by rw [hz0, hx0]))
    · obtain ⟨m, hm, hmp⟩ := h.dn p hpF _ hb
      have hme : z = (z.1, m) := h.un hz hm rfl
      have hzp : z.2.path = p.2.path ++ b :: bl m.pre := by rw [hme]; exact hmp
      have hm2 : m = z.2 := by rw [hme]
      have hlen : z.2.path.length = p.2.path.length + (1 + (bl m.pre).length) := by
        rw [hzp, List.length_append, List.length_cons]; omega
      by_cases hle : x.2.path.length ≤ p.2.path.length
      · have hxp : x.2.path <+: p.2.path := by
          rw [hzp] at hp
          exact List.prefix_of_prefix_length_le hp (List.prefix_append _ _) hle
        rcases ih x p (by omega) hx hpF hxp with e | ⟨y, hy, m', h1, h2, h3⟩
        · subst e
          exact .inr ⟨(b, z.1), hb, m, hm, hmp, by rw [hm2]; exact List.prefix_refl _⟩
        · exact .inr ⟨y, hy, m', h1, h2, h3.trans (by rw [hzp]; exact List.prefix_append _ _)⟩
      · by_cases heq : x.2.path.length = z.2.path.length
        · exact .inl (h.unp hz hx (hp.eq_of_length heq).symm)
        · have hxl : x.2.path.length < z.2.path.length := by
            have := hp.length_le
            omega
          have hpx : p.2.path <+: x.2.path := by
            refine List.prefix_of_prefix_length_le (l₃ := z.2.path) ?_ hp (by omega)
            rw [hzp]; exact List.prefix_append _ _
          rcases ih p x (by omega) hpF hx hpx with e | ⟨y, hy, m', h1, h2, h3⟩
          · rw [e] at hle; omega
          · have hyb : y.1 = b := by
              have h4 : p.2.path ++ y.1 :: bl m'.pre <+: p.2.path ++ b :: bl m.pre := by
                rw [← h2, ← hzp]; exact h3.trans hp
              have h5 := (List.prefix_append_right_inj _).1 h4
              exact (List.cons_prefix_cons.1 h5).1
            have hy2 : y.2 = z.1 := by
              have hyy : (b, y.2) ∈ p.2.kids := by rw [← hyb]; exact hy
              exact ks_uniq (h.srt p hpF) hyy hb
            have hme2 : m' = z.2 := by
              have := h.un h1 hz hy2
              rw [← this]
            have := h3.length_le
            rw [hme2] at this
            omega
theorem AOK.under (h : AOK F r) {x z : Hd × AN} (hx : x ∈ F) (hz : z ∈ F) (hp : x.2.path <+: z.2.path) :
    z = x ∨ ∃ y, y ∈ x.2.kids ∧ ∃ m, (y.2, m) ∈ F ∧ m.path = x.2.path ++ y.1 :: bl m.pre ∧ m.path <+: z.2.path := h.cover _ x z (Nat.le_refl _) hx hz hp
/-- .. so whoever begins with a node's path and a kid's byte lies under that kid. -/
theorem AOK.via (h : AOK F r) {x z : Hd × AN} {y : UInt8 × Hd} {m : AN} (hx : x ∈ F) (hz : z ∈ F) (hy : y ∈ x.2.kids) (hm : (y.2, m) ∈ F) (hp : x.2.path ++ [y.1] <+: z.2.path) : m.path <+: z.2.path := by
  rcases h.under hx hz ((List.prefix_append _ _).trans hp) with e | ⟨y', hy', m', h1, h2, h3⟩
  · rw [e] at hp
    have := hp.length_le
    simp at this
    omega
  · have hyb : y'.1 = y.1 := by
      obtain ⟨s, hs⟩ := hp
      obtain ⟨t, ht⟩ := h3
      rw [h2, ← hs, List.append_assoc, List.append_assoc] at ht
      have := List.append_cancel_left ht
      simp only [List.cons_append, List.cons.injEq] at this
      exact this.1
    have hy2 : y'.2 = y.2 := by
      have hyy : (y.1, y'.2) ∈ x.2.kids := by rw [← hyb]; exact hy'
      exact ks_uniq (h.srt x hx) hyy hy
    have := h.un h1 hm hy2
    injection this with _ this
    rw [← this]
    exact h3
/-! ### What a subtree holds -/
def sub (C : Cont) (p : Byt) : Cont := C.filter fun x => p.isPrefixOf (bl x.1)
structure ACt (F : AF) (C : Cont) : Prop where
  srt : CSort C
  mem : ∀ k v, (k, v) ∈ C ↔ ∃ x, x ∈ F ∧ x.2.path = bl k ∧ x.2.val = some v
theorem mem_sub {p : Byt} {x : Str × Str} : x ∈ sub C p ↔ x ∈ C ∧ p <+: bl x.1 := by
  unfold sub
  rw [List.mem_filter, List.isPrefixOf_iff_prefix]
theorem sub_sort (h : CSort C) (p : Byt) : CSort (sub C p) := List.Pairwise.sublist List.filter_sublist h
theorem sub_nil : sub C [] = C := by
  unfold sub
  exact filter_all fun _ _ => rfl
def vals (x : AN) : Cont := match x.val with
  | some v => [(bs x.path, v)]
  | none => []
theorem mem_vals {x : AN} {k v : Str} : (k, v) ∈ vals x ↔ bl k = x.path ∧ x.val = some v := by
  unfold vals
  cases x.val with
  | none => simp
  | some u =>
    simp only [List.mem_singleton, Prod.mk.injEq, Option.some.injEq]
    constructor
    · rintro ⟨e1, e2⟩; rw [e1, e2]; exact ⟨bl_bs _, rfl⟩
    · rintro ⟨e1, e2⟩; rw [← e1, e2]; exact ⟨(bs_bl k).symm, rfl⟩
def kidsC (C : Cont) (p : Byt) (L : KL) : Cont := L.flatMap fun y => sub C (p ++ [y.1])
theorem kidsC_sort (hs : CSort C) (p : Byt) : ∀ {L : KL}, KSort L → CSort (kidsC C p L)
  | [], _ => List.Pairwise.nil
  | y :: L, h => by
    obtain ⟨h1, h2⟩ := List.pairwise_cons.1 h
    unfold kidsC
    rw [List.flatMap_cons]
    refine List.pairwise_append.2 ⟨sub_sort hs _, kidsC_sort hs p h2, fun a ha b hb => ?_⟩
    obtain ⟨z, hz, hb⟩ := List.mem_flatMap.1 hb
    obtain ⟨_, s, hs1⟩ := mem_sub.1 ha
    obtain ⟨_, t, ht1⟩ := mem_sub.1 hb
    refine slt_part (p := p) (s := s) (t := t) (x := y.1) (y := z.1) ?_ ?_ (h1 z hz)
    · rw [← hs1]; simp
    · rw [← ht1]; simp
theorem sub_node (h : AOK F r) (hc : ACt F C) {x : Hd × AN} (hx : x ∈ F) : sub C x.2.path = vals x.2 ++ kidsC C x.2.path x.2.kids := by
  refine csort_ext (sub_sort hc.srt _) (List.pairwise_append.2 ⟨?_, kidsC_sort hc.srt _ (h.srt x hx), fun a ha b hb => ?_⟩) fun kv => ?_
  · unfold vals
    cases x.2.val <;> simp
  · obtain ⟨z, hz, hb⟩ := List.mem_flatMap.1 hb
    obtain ⟨_, t, ht1⟩ := mem_sub.1 hb
    refine slt_pre (t := t) (y := z.1) ?_
    rw [← ht1, (mem_vals (k := a.1) (v := a.2).1 ha).1]
    simp
  · obtain ⟨k, v⟩ := kv
    rw [List.mem_append, mem_sub, mem_vals]
    constructor
    · rintro ⟨hm, hp⟩
      obtain ⟨z, hz, hz1, hz2⟩ := (hc.mem k v).1 hm
      simp only at hp
      rw [← hz1] at hp
      rcases h.under hx hz hp with e | ⟨y, hy, m, h1, h2, h3⟩
      · subst e; exact .inl ⟨hz1.symm, hz2⟩
      · refine .inr (List.mem_flatMap.2 ⟨y, hy, mem_sub.2 ⟨hm, ?_⟩⟩)
        rw [hz1, h2] at h3
        refine List.IsPrefix.trans ?_ h3
        exact ⟨bl m.pre, by simp⟩
    · rintro (⟨h1, h2⟩ | hk)
      · exact ⟨(hc.mem k v).2 ⟨x, hx, h1.symm, h2⟩, by rw [h1]; exact List.prefix_refl _⟩
      · obtain ⟨y, hy, hk⟩ := List.mem_flatMap.1 hk
        obtain ⟨h1, h2⟩ := mem_sub.1 hk
        exact ⟨h1, (List.prefix_append _ _).trans h2⟩
theorem sub_kid (h : AOK F r) (hc : ACt F C) {x : Hd × AN} (hx : x ∈ F) {y : UInt8 × Hd} {m : AN} (hy : y ∈ x.2.kids) (hm : (y.2, m) ∈ F) : sub C (x.2.path ++ [y.1]) = sub C m.path := by
  have hmp : m.path = x.2.path ++ y.1 :: bl m.pre := by
    obtain ⟨m', h1, h2⟩ := h.dn x hx y hy
    have := h.un h1 hm rfl
    injection this with _ this
    rw [← this]; exact h2
  refine csort_ext (sub_sort hc.srt _) (sub_sort hc.srt _) fun kv => ?_
  obtain ⟨k, v⟩ := kv
  rw [mem_sub, mem_sub]
  constructor
  · rintro ⟨h1, h2⟩
    refine ⟨h1, ?_⟩
    obtain ⟨z, hz, hz1, hz2⟩ := (hc.mem k v).1 h1
    simp only at h2 ⊢
    rw [← hz1] at h2 ⊢
    exact h.via hx hz hy hm h2
  · rintro ⟨h1, h2⟩
    refine ⟨h1, List.IsPrefix.trans ?_ h2⟩
    rw [hmp]
    exact ⟨bl m.pre, by simp⟩
/-! ### How many nodes a subtree has -/
def nsub (F : AF) (p : Byt) : AF := F.filter fun z => p.isPrefixOf z.2.path
theorem mem_nsub {p : Byt} {z : Hd × AN} : z ∈ nsub F p ↔ z ∈ F ∧ p <+: z.2.path := by
  unfold nsub
  rw [List.mem_filter, List.isPrefixOf_iff_prefix]
theorem nsub_kid (h : AOK F r) {x : Hd × AN} (hx : x ∈ F) {y : UInt8 × Hd} {m : AN} (hy : y ∈ x.2.kids) (hm : (y.2, m) ∈ F) : nsub F (x.2.path ++ [y.1]) = nsub F m.path := by
  have hmp : m.path = x.2.path ++ y.1 :: bl m.pre := by
    obtain ⟨m', h1, h2⟩ := h.dn x hx y hy
    have := h.un h1 hm rfl
    injection this with _ this
    rw [← this]; exact h2
  unfold nsub
  refine List.filter_congr fun z hz => ?_
  rw [Bool.eq_iff_iff, List.isPrefixOf_iff_prefix, List.isPrefixOf_iff_prefix]
  constructor
  · exact fun h2 => h.via hx hz hy hm h2
  · intro h2
    refine List.IsPrefix.trans ?_ h2
    rw [hmp]
    exact ⟨bl m.pre, by simp⟩
end
end Go.Proofs.YtmhlokomlngdmaaGreat
namespace Go.Proofs.YtmhlokomlngdmaaGreat
theorem perm_nd {α : Type} : ∀ {l m : List α}, l.Nodup → m.Nodup → (∀ a, a ∈ l ↔ a ∈ m) → l.Perm m
  | [], [], _, _, _ => .nil
  | [], b :: m, _, _, h => by have := (h b).2 (by simp); simp at this
  | a :: l, m, hl, hm, h => by
    obtain ⟨s, t, rfl⟩ := List.append_of_mem ((h a).1 (by simp))
    rw [List.nodup_cons] at hl
    have hp : (s ++ a :: t).Perm (a :: (s ++ t)) := List.perm_middle
    have hm' := hp.nodup_iff.1 hm
    rw [List.nodup_cons] at hm'
    refine (List.Perm.cons a (perm_nd hl.2 hm'.2 fun b => ?_)).trans hp.symm
    constructor
    · intro hb
      have h1 := hp.mem_iff.1 ((h b).1 (List.mem_cons_of_mem _ hb))
      rcases List.mem_cons.1 h1 with rfl | h1
      · exact absurd hb hl.1
      · exact h1
    · intro hb
      have h1 := (h b).2 (hp.mem_iff.2 (List.mem_cons_of_mem _ hb))
      rcases List.mem_cons.1 h1 with rfl | h1
      · exact absurd hb hm'.1
      · exact h1
section
variable {F : AF} {r : Hd} {C : Cont}
theorem nodup_of_map {α β : Type} {f : α → β} : ∀ {L : List α}, (L.map f).Nodup → L.Nodup
  | [], _ => List.Pairwise.nil
  | a :: L, h => by
    rw [List.map_cons, List.nodup_cons] at h
    exact List.nodup_cons.2 ⟨fun hm => h.1 (List.mem_map.2 ⟨a, hm, rfl⟩), nodup_of_map h.2⟩
theorem AOK.ndF (h : AOK F r) : F.Nodup := nodup_of_map h.nd
theorem AOK.kidsN (h : AOK F r) {x : Hd × AN} (hx : x ∈ F) : ∀ {L : KL}, KSort L → (L.flatMap fun y => nsub F (x.2.path ++ [y.1])).Nodup
  | [], _ => List.Pairwise.nil
  | y :: L, hs => by
    obtain ⟨h1, h2⟩ := List.pairwise_cons.1 hs
    rw [List.flatMap_cons]
    refine List.nodup_append.2 ⟨List.Pairwise.sublist List.filter_sublist h.ndF, h.kidsN hx h2, fun a ha b hb e => ?_⟩
    subst e
    obtain ⟨z, hz, hb⟩ := List.mem_flatMap.1 hb
    obtain ⟨_, s, hs1⟩ := mem_nsub.1 ha
    obtain ⟨_, t, ht1⟩ := mem_nsub.1 hb
    rw [← hs1, List.append_assoc, List.append_assoc] at ht1
    have := List.append_cancel_left ht1
    simp only [List.cons_append, List.cons.injEq] at this
    have h3 := h1 z hz
    rw [this.1] at h3
    exact UInt8.lt_irrefl _ h3
theorem nsub_node (h : AOK F r) {x : Hd × AN} (hx : x ∈ F) : (nsub F x.2.path).length = 1 + (x.2.kids.map fun y => (nsub F (x.2.path ++ [y.1])).length).sum := by
  have hp : (nsub F x.2.path).Perm (x :: x.2.kids.flatMap fun y => nsub F (x.2.path ++ [y.1])) := by
    refine perm_nd (List.Pairwise.sublist List.filter_sublist h.ndF) (List.nodup_cons.2 ⟨fun hm => ?_, h.kidsN hx (h.srt x hx)⟩) fun z => ?_
    · obtain ⟨y, _, hm⟩ := List.mem_flatMap.1 hm
      have := (mem_nsub.1 hm).2.length_le
      simp at this
      omega
    · rw [mem_nsub, List.mem_cons, List.mem_flatMap]
      constructor
      · rintro ⟨h1, h2⟩
        rcases h.under hx h1 h2 with e | ⟨y, hy, m, q1, q2, q3⟩
        · exact .inl e
        · refine .inr ⟨y, hy, mem_nsub.2 ⟨h1, List.IsPrefix.trans ?_ q3⟩⟩
          rw [q2]
          exact ⟨bl m.pre, by simp⟩
      · rintro (rfl | ⟨y, hy, hz⟩)
        · exact ⟨hx, List.prefix_refl _⟩
        · obtain ⟨q1, q2⟩ := mem_nsub.1 hz
          exact ⟨q1, (List.prefix_append _ _).trans q2⟩
  rw [hp.length_eq, List.length_cons, List.length_flatMap]
  omega
theorem sum_le_of_mem {L : List Nat} {n : Nat} (h : n ∈ L) : n ≤ L.sum := by
  induction L with
  | nil => cases h
  | cons a L ih =>
    rw [List.sum_cons]
    rcases List.mem_cons.1 h with rfl | h
    · omega
    · have := ih h; omega
/-- A kid's nodes are fewer. -/
theorem nsub_lt (h : AOK F r) {x : Hd × AN} (hx : x ∈ F) {y : UInt8 × Hd} {m : AN} (hy : y ∈ x.2.kids) (hm : (y.2, m) ∈ F) : (nsub F m.path).length < (nsub F x.2.path).length := by
  rw [nsub_node h hx, ← nsub_kid h hx hy hm]
  have := sum_le_of_mem (List.mem_map.2 ⟨y, hy, rfl⟩ : (nsub F (x.2.path ++ [y.1])).length ∈ x.2.kids.map fun y => (nsub F (x.2.path ++ [y.1])).length)
  omega
/-! ### Kids from a byte on -/
theorem kfrom_none {L : KL} {i : Nat} (h : kfrom L i = none) : L.filter (fun y => decide (i ≤ y.1.toNat)) = [] := by
  unfold kfrom at h
  exact List.filter_eq_nil_iff.2 fun y hy => List.find?_eq_none.1 h y hy
theorem kfrom_some {L : KL} (hs : KSort L) {i : Nat} {y : UInt8 × Hd} (h : kfrom L i = some y) :
    y ∈ L ∧ i ≤ y.1.toNat ∧ L.filter (fun y => decide (i ≤ y.1.toNat)) = y :: L.filter (fun z => decide (y.1.toNat + 1 ≤ z.1.toNat)) := by
  unfold kfrom at h
  have hm := List.mem_of_find?_eq_some h
  have h1 := List.find?_some h
  simp only [decide_eq_true_eq] at h1
  refine ⟨hm, h1, ?_⟩
  induction L with
  | nil => cases hm
  | cons z L ih =>
    obtain ⟨q1, q2⟩ := List.pairwise_cons.1 hs
    rw [List.find?_cons] at h
    by_cases hz : i ≤ z.1.toNat
    · simp only [decide_eq_true hz, Option.some.injEq] at h
      subst h
      rw [List.filter_cons, if_pos (by simpa using hz), List.filter_cons, if_neg (by simp)]
      congr 1
      refine List.filter_congr fun x hx => ?_
      have := UInt8.lt_iff_toNat_lt.1 (q1 x hx)
      rw [decide_eq_true (by omega), decide_eq_true (by omega)]
    · simp only [decide_eq_false hz] at h
      have hy : y ∈ L := List.mem_of_find?_eq_some h
      have := UInt8.lt_iff_toNat_lt.1 (q1 y hy)
      rw [List.filter_cons, if_neg (by simpa using hz), List.filter_cons, if_neg (by simp; omega)]
      exact ih q2 h hy
def belowC (C : Cont) (p : Byt) (L : KL) (i : Nat) : Cont := kidsC C p (L.filter fun y => decide (i ≤ y.1.toNat))
theorem belowC_zero (p : Byt) (L : KL) : belowC C p L 0 = kidsC C p L := by
  unfold belowC
  rw [filter_all fun _ _ => by simp]
theorem belowC_none {p : Byt} {L : KL} {i : Nat} (h : kfrom L i = none) : belowC C p L i = [] := by
  unfold belowC
  rw [kfrom_none h]
  rfl
theorem belowC_some {p : Byt} {L : KL} {i : Nat} {y : UInt8 × Hd} (hs : KSort L) (h : kfrom L i = some y) : belowC C p L i = sub C (p ++ [y.1]) ++ belowC C p L (y.1.toNat + 1) := by
  unfold belowC
  rw [(kfrom_some hs h).2.2]
  exact List.flatMap_cons
/-! ### The next key at and below a node -/
theorem cnext_low {S : Cont} {key : Str} {after : Bool} (h : ∀ kv, kv ∈ S → slt kv.1 key = true) : cnext S key after = none := find_none fun p hp => by
  cases after
  · simp [sle, h p hp]
  · simp [slt_asymm (h p hp)]
theorem find_head {α : Type} {p : α → Bool} : ∀ {l : List α}, (∀ x, x ∈ l → p x = true) → l.find? p = l.head?
  | [], _ => rfl
  | x :: l, h => by rw [List.find?_cons, h x (by simp)]; rfl
theorem cnext_high {S : Cont} {key : Str} {after : Bool} (h : ∀ kv, kv ∈ S → slt key kv.1 = true) : cnext S key after = S.head? := find_head fun p hp => by
  cases after
  · simp [slt_sle (h p hp)]
  · simp [h p hp]
theorem cnext_app (A B : Cont) (key : Str) (after : Bool) : cnext (A ++ B) key after = (cnext A key after).or (cnext B key after) := by
  unfold cnext
  rw [List.find?_append]
theorem kidsC_app (p : Byt) (L M : KL) : kidsC C p (L ++ M) = kidsC C p L ++ kidsC C p M := List.flatMap_append
theorem ks_split : ∀ {L : KL}, KSort L → ∀ b : UInt8, L = (L.filter fun y => decide (y.1 < b)) ++ ((match kget L b with | some h => [(b, h)] | none => []) ++ L.filter fun y => decide (b.toNat + 1 ≤ y.1.toNat))
  | [], _, _ => rfl
  | y :: L, hs, b => by
    obtain ⟨q1, q2⟩ := List.pairwise_cons.1 hs
    have ih := ks_split q2 b
    rcases u8_tri y.1 b with e | e | e
    · have hlt := UInt8.lt_iff_toNat_lt.1 e
      have hg : kget (y :: L) b = kget L b := by unfold kget; rw [List.find?_cons, decide_eq_false (UInt8.ne_of_lt e)]
      rw [hg, List.filter_cons, if_pos (by simpa using e), List.filter_cons, if_neg (by simp; omega), List.cons_append, ← ih]
    · have hg : kget (y :: L) b = some y.2 := by unfold kget; rw [List.find?_cons, decide_eq_true e]; rfl
      have h1 : L.filter (fun z => decide (z.1 < b)) = [] := filter_none fun z hz => by
        have := q1 z hz
        rw [e] at this
        exact decide_eq_false fun hh => UInt8.lt_irrefl _ (UInt8.lt_trans this hh)
      have h2 : L.filter (fun z => decide (b.toNat + 1 ≤ z.1.toNat)) = L := filter_all fun z hz => by
        have := UInt8.lt_iff_toNat_lt.1 (q1 z hz)
        rw [e] at this
        exact decide_eq_true (by omega)
      rw [hg, List.filter_cons, if_neg (by rw [e]; simp), h1, List.filter_cons, if_neg (by rw [e]; simp), h2]
      show y :: L = (b, y.2) :: L
      rw [← e]
    · have hlt := UInt8.lt_iff_toNat_lt.1 e
      have hg : kget (y :: L) b = none := kget_none_iff.2 fun z hz => by
        rcases List.mem_cons.1 hz with rfl | hz
        · exact fun e' => UInt8.ne_of_lt e e'.symm
        · exact fun e' => UInt8.ne_of_lt (UInt8.lt_trans e (q1 z hz)) e'.symm
      have h1 : (y :: L).filter (fun z => decide (z.1 < b)) = [] := filter_none fun z hz => by
        refine decide_eq_false fun hh => ?_
        rcases List.mem_cons.1 hz with rfl | hz
        · exact UInt8.lt_irrefl _ (UInt8.lt_trans e hh)
        · exact UInt8.lt_irrefl _ (UInt8.lt_trans (UInt8.lt_trans e (q1 z hz)) hh)
      have h2 : (y :: L).filter (fun z => decide (b.toNat + 1 ≤ z.1.toNat)) = y :: L := filter_all fun z hz => by
        refine decide_eq_true ?_
        rcases List.mem_cons.1 hz with rfl | hz
        · omega
        · have := UInt8.lt_iff_toNat_lt.1 (q1 z hz); omega
      rw [hg, h1, h2]
      rfl
/-- Nothing of a subtree is below a key that parts from the node's path upwards. -/
theorem sub_low {p c s t : Byt} {a b : UInt8} {key : Str} (hp : p = c ++ a :: s) (hk : bl key = c ++ b :: t) (h : a < b) : ∀ kv, kv ∈ sub C p → slt kv.1 key = true := fun kv hkv => by
  obtain ⟨u, hu⟩ := (mem_sub.1 hkv).2
  exact slt_part (p := c) (s := s ++ u) (t := t) (by rw [← hu, hp]; simp) hk h
theorem sub_high {p c s t : Byt} {a b : UInt8} {key : Str} (hp : p = c ++ a :: s) (hk : bl key = c ++ b :: t) (h : b < a) : ∀ kv, kv ∈ sub C p → slt key kv.1 = true := fun kv hkv => by
  obtain ⟨u, hu⟩ := (mem_sub.1 hkv).2
  exact slt_part (p := c) (s := t) (t := s ++ u) hk (by rw [← hu, hp]; simp) h
theorem kids_high {p s : Byt} {L : KL} {key : Str} (hp : p = bl key ++ s) : ∀ kv, kv ∈ kidsC C p L → slt key kv.1 = true := fun kv hkv => by
  obtain ⟨y, _, hkv⟩ := List.mem_flatMap.1 hkv
  obtain ⟨u, hu⟩ := (mem_sub.1 hkv).2
  cases s with
  | nil => exact slt_pre (t := u) (y := y.1) (by rw [← hu, hp]; simp)
  | cons a s => exact slt_pre (t := s ++ (y.1 :: u)) (y := a) (by rw [← hu, hp]; simp)
/-- A key that goes on behind a node's path: at its byte, else behind it. -/
theorem art_in (h : AOK F r) (hc : ACt F C) {x : Hd × AN} (hx : x ∈ F) {key : Str} {after : Bool} {b : UInt8} {t : Byt} (hk : bl key = x.2.path ++ b :: t) :
    cnext (sub C x.2.path) key after = (match kget x.2.kids b with | some _ => cnext (sub C (x.2.path ++ [b])) key after | none => none).or (belowC C x.2.path x.2.kids (b.toNat + 1)).head? := by
  rw [sub_node h hc hx, cnext_app]
  have h1 : cnext (vals x.2) key after = none := cnext_low fun kv hkv => slt_pre (y := b) (t := t) (by rw [hk, (mem_vals (k := kv.1) (v := kv.2).1 hkv).1])
  have h2 := ks_split (h.srt x hx) b
  have h3 : cnext (kidsC C x.2.path (x.2.kids.filter fun y => decide (y.1 < b))) key after = none := cnext_low fun kv hkv => by
    obtain ⟨y, hy, hkv⟩ := List.mem_flatMap.1 hkv
    have hlt : y.1 < b := by simpa using (List.mem_filter.1 hy).2
    exact sub_low (p := x.2.path ++ [y.1]) (c := x.2.path) (s := []) (t := t) rfl hk hlt kv hkv
  have h4 : cnext (belowC C x.2.path x.2.kids (b.toNat + 1)) key after = (belowC C x.2.path x.2.kids (b.toNat + 1)).head? := cnext_high fun kv hkv => by
    obtain ⟨y, hy, hkv⟩ := List.mem_flatMap.1 hkv
    have hlt : b.toNat + 1 ≤ y.1.toNat := by simpa using (List.mem_filter.1 hy).2
    exact sub_high (p := x.2.path ++ [y.1]) (c := x.2.path) (s := []) (t := t) rfl hk (UInt8.lt_iff_toNat_lt.2 (by omega)) kv hkv
  rw [h1, Option.none_or]
  conv => lhs; rw [h2, kidsC_app, kidsC_app, cnext_app, cnext_app]
  rw [h3, Option.none_or]
  show (cnext (kidsC C x.2.path _) key after).or (cnext (belowC C x.2.path x.2.kids (b.toNat + 1)) key after) = _
  rw [h4]
  cases kget x.2.kids b with
  | none => rfl
  | some g => simp [kidsC]
/-- A key that is none ahead of the node's path: the first one, but for the key itself. -/
theorem art_at (h : AOK F r) (hc : ACt F C) {x : Hd × AN} (hx : x ∈ F) {key : Str} {after : Bool} (hge : (∃ s, x.2.path = bl key ++ s) ∨ ∃ c s t a b, x.2.path = c ++ a :: s ∧ bl key = c ++ b :: t ∧ b < a) :
    cnext (sub C x.2.path) key after = (match x.2.val with | some v => if after = true ∧ x.2.path = bl key then none else some (bs x.2.path, v) | none => none).or (kidsC C x.2.path x.2.kids).head? := by
  have hhi : ∀ kv, kv ∈ kidsC C x.2.path x.2.kids → slt key kv.1 = true := by
    rcases hge with ⟨s, hs⟩ | ⟨c, s, t, a, b, h1, h2, h3⟩
    · exact kids_high hs
    · intro kv hkv
      obtain ⟨y, _, hkv⟩ := List.mem_flatMap.1 hkv
      obtain ⟨u, hu⟩ := (mem_sub.1 hkv).2
      exact slt_part (p := c) (s := t) (t := s ++ y.1 :: u) h2 (by rw [← hu, h1]; simp) h3
  rw [sub_node h hc hx, cnext_app, cnext_high hhi]
  congr 1
  unfold vals
  cases x.2.val with
  | none => rfl
  | some v =>
    simp only
    have hle : x.2.path = bl key ∨ slt key (bs x.2.path) = true := by
      rcases hge with ⟨s, hs⟩ | ⟨c, s, t, a, b, h1, h2, h3⟩
      · cases s with
        | nil => left; rw [hs]; simp
        | cons a s => right; exact slt_pre (y := a) (t := s) (by rw [bl_bs, hs])
      · right; exact slt_part (p := c) (s := t) (t := s) h2 (by rw [bl_bs, h1]) h3
    unfold cnext
    rw [List.find?_cons]
    by_cases e : x.2.path = bl key
    · have e' : bs x.2.path = key := by rw [e, bs_bl]
      rw [e']
      cases after
      · simp [sle_refl]
      · simp [slt_irrefl, e]
    · have hl : slt key (bs x.2.path) = true := hle.resolve_left e
      cases after
      · simp [slt_sle hl]
      · simp [hl, e]
/-- The first key at and below a node. -/
theorem art_least (h : AOK F r) (hc : ACt F C) {x : Hd × AN} (hx : x ∈ F) : (sub C x.2.path).head? = (match x.2.val with | some v => some (bs x.2.path, v) | none => (kidsC C x.2.path x.2.kids).head?) := by
  rw [sub_node h hc hx]
  unfold vals
  cases x.2.val <;> simp
end
end Go.Proofs.YtmhlokomlngdmaaGreat
namespace Go.Proofs.YtmhlokomlngdmaaGreat
def aset (F : AF) (h : Hd) (n : AN) : AF := F.map fun z => if z.1 = h then (h, n) else z
def adel (F : AF) (h : Hd) : AF := F.filter fun z => !decide (z.1 = h)
theorem aset_fst (F : AF) (h : Hd) (n : AN) : (aset F h n).map (·.1) = F.map (·.1) := by
  unfold aset
  rw [List.map_map]
  refine List.map_congr_left fun z _ => ?_
  show (if z.1 = h then (h, n) else z).1 = z.1
  split
  · next e => exact e.symm
  · rfl
theorem aset_len (F : AF) (h : Hd) (n : AN) : (aset F h n).length = F.length := List.length_map _
theorem mem_aset {F : AF} {h : Hd} {n : AN} {z : Hd × AN} (hx : ∃ m, (h, m) ∈ F) : z ∈ aset F h n ↔ z = (h, n) ∨ (z.1 ≠ h ∧ z ∈ F) := by
  unfold aset
  rw [List.mem_map]
  constructor
  · rintro ⟨y, hy, e⟩
    by_cases hh : y.1 = h
    · rw [if_pos hh] at e; exact .inl e.symm
    · rw [if_neg hh] at e; subst e; exact .inr ⟨hh, hy⟩
  · rintro (rfl | ⟨h1, h2⟩)
    · obtain ⟨m, hm⟩ := hx
      exact ⟨(h, m), hm, if_pos rfl⟩
    · exact ⟨z, h2, if_neg h1⟩
theorem mem_adel {F : AF} {h : Hd} {z : Hd × AN} : z ∈ adel F h ↔ z.1 ≠ h ∧ z ∈ F := by
  unfold adel
  rw [List.mem_filter]
  simp [and_comm]
theorem nodup_iff_inj {α β : Type} {f : α → β} {L : List α} (hn : L.Nodup) (h : ∀ x y, x ∈ L → y ∈ L → f x = f y → x = y) : (L.map f).Nodup := by
  induction L with
  | nil => exact List.Pairwise.nil
  | cons a L ih =>
    obtain ⟨h1, h2⟩ := List.nodup_cons.1 hn
    rw [List.map_cons, List.nodup_cons]
    refine ⟨fun hm => ?_, ih h2 fun x y hx hy => h x y (by simp [hx]) (by simp [hy])⟩
    obtain ⟨y, hy, e⟩ := List.mem_map.1 hm
    have := h y a (by simp [hy]) (by simp) e
    rw [this] at hy
    exact h1 hy
section
variable {F : AF} {r : Hd} {C : Cont}
theorem ACt.get_at (hc : ACt F C) (h : AOK F r) {x : Hd × AN} (hx : x ∈ F) {k : Str} (hk : bl k = x.2.path) : cget C k = x.2.val := by
  cases hv : x.2.val with
  | some v => exact (cget_iff hc.srt).2 ((hc.mem k v).2 ⟨x, hx, hk.symm, hv⟩)
  | none =>
    refine (cget_none_iff hc.srt).2 fun v hm => ?_
    obtain ⟨z, hz, h1, h2⟩ := (hc.mem k v).1 hm
    have := h.unp hz hx (by rw [h1, hk])
    rw [this, hv] at h2
    cases h2
theorem ACt.get_none (hc : ACt F C) {k : Str} (hk : ∀ x, x ∈ F → x.2.path ≠ bl k) : cget C k = none :=
  (cget_none_iff hc.srt).2 fun v hm => by
    obtain ⟨z, hz, h1, _⟩ := (hc.mem k v).1 hm
    exact hk z hz h1
/-- A node's value is set, or taken. -/
theorem AOK.setVal (h : AOK F r) {x : Hd × AN} (hx : x ∈ F) (v : Option Str) : AOK (aset F x.1 { x.2 with val := v }) r := by
  have hm := fun z => mem_aset (F := F) (h := x.1) (n := { x.2 with val := v }) (z := z) ⟨x.2, hx⟩
  have hp : (aset F x.1 { x.2 with val := v }).map (·.2.path) = F.map (·.2.path) := by
    unfold aset
    rw [List.map_map]
    refine List.map_congr_left fun z hz => ?_
    show (if z.1 = x.1 then (x.1, ({ x.2 with val := v } : AN)) else z).2.path = z.2.path
    split
    · next e => rw [h.un hz hx e]
    · rfl
  have old : ∀ z, z ∈ F → ∃ m, (z.1, m) ∈ aset F x.1 { x.2 with val := v } ∧ m.path = z.2.path ∧ m.pre = z.2.pre ∧ m.kids = z.2.kids := fun z hz => by
    by_cases e : z.1 = x.1
    · have := h.un hz hx e
      subst this
      exact ⟨_, (hm _).2 (.inl rfl), rfl, rfl, rfl⟩
    · exact ⟨z.2, (hm _).2 (.inr ⟨e, hz⟩), rfl, rfl, rfl⟩
  have new : ∀ z, z ∈ aset F x.1 { x.2 with val := v } → ∃ y, y ∈ F ∧ y.1 = z.1 ∧ y.2.path = z.2.path ∧ y.2.kids = z.2.kids := fun z hz => by
    rcases (hm z).1 hz with rfl | ⟨_, h2⟩
    · exact ⟨x, hx, rfl, rfl, rfl⟩
    · exact ⟨z, h2, rfl, rfl, rfl⟩
  refine ⟨by rw [aset_fst]; exact h.nd, by rw [hp]; exact h.pd, ?_, fun z hz y hy => ?_, fun z hz => ?_, fun z hz => ?_⟩
  · obtain ⟨n, h1, h2, h3⟩ := h.root
    obtain ⟨m, q1, q2, q3, _⟩ := old _ h1
    exact ⟨m, q1, q2.trans h2, q3.trans h3⟩
  · obtain ⟨z', p1, p2, p3, p4⟩ := new z hz
    obtain ⟨m, q1, q2⟩ := h.dn z' p1 y (by rw [p4]; exact hy)
    obtain ⟨m', s1, s2, s3, _⟩ := old _ q1
    exact ⟨m', s1, by rw [s2, s3, ← p3]; exact q2⟩
  · obtain ⟨z', p1, p2, p3, p4⟩ := new z hz
    rcases h.up z' p1 with e | ⟨y, hy, b, hb⟩
    · exact .inl (by rw [← p2]; exact e)
    · obtain ⟨m, s1, s2, s3, s4⟩ := old _ hy
      exact .inr ⟨_, s1, b, by rw [s4, ← p2]; exact hb⟩
  · obtain ⟨z', p1, p2, p3, p4⟩ := new z hz
    rw [← p4]
    exact h.srt z' p1
theorem ACt.setVal (hc : ACt F C) (h : AOK F r) {x : Hd × AN} (hx : x ∈ F) {k v : Str} (hk : bl k = x.2.path) : ACt (aset F x.1 { x.2 with val := some v }) (cput C k v) := by
  refine ⟨cs_put hc.srt k v, fun k' v' => ?_⟩
  rw [mem_cput hc.srt]
  have hm := fun z => mem_aset (F := F) (h := x.1) (n := { x.2 with val := some v }) (z := z) ⟨x.2, hx⟩
  by_cases e : k = k'
  · subst e
    rw [if_pos rfl]
    constructor
    · intro e; subst e; exact ⟨_, (hm _).2 (.inl rfl), hk.symm, rfl⟩
    · rintro ⟨z, hz, h1, h2⟩
      rcases (hm z).1 hz with rfl | ⟨q1, q2⟩
      · simp only [Option.some.injEq] at h2; exact h2.symm
      · exact absurd (by rw [h.unp q2 hx (by rw [h1, hk])]) q1
  · rw [if_neg e, hc.mem]
    constructor
    · rintro ⟨z, hz, h1, h2⟩
      refine ⟨z, (hm z).2 (.inr ⟨fun e1 => e ?_, hz⟩), h1, h2⟩
      rw [h.un hz hx e1, ← hk] at h1
      exact bl_inj h1
    · rintro ⟨z, hz, h1, h2⟩
      rcases (hm z).1 hz with rfl | ⟨q1, q2⟩
      · simp only at h1; rw [← hk] at h1; exact absurd (bl_inj h1) e
      · exact ⟨z, q2, h1, h2⟩
theorem ACt.delVal (hc : ACt F C) (h : AOK F r) {x : Hd × AN} (hx : x ∈ F) {k : Str} (hk : bl k = x.2.path) : ACt (aset F x.1 { x.2 with val := none }) (cdel C k) := by
  refine ⟨cs_del hc.srt k, fun k' v' => ?_⟩
  rw [mem_cdel hc.srt]
  have hm := fun z => mem_aset (F := F) (h := x.1) (n := { x.2 with val := none }) (z := z) ⟨x.2, hx⟩
  rw [hc.mem]
  constructor
  · rintro ⟨e, z, hz, h1, h2⟩
    refine ⟨z, (hm z).2 (.inr ⟨fun e1 => e ?_, hz⟩), h1, h2⟩
    rw [h.un hz hx e1, ← hk] at h1
    exact bl_inj h1
  · rintro ⟨z, hz, h1, h2⟩
    rcases (hm z).1 hz with rfl | ⟨q1, q2⟩
    · cases h2
    · refine ⟨fun e => q1 ?_, z, q2, h1, h2⟩
      subst e
      rw [h.unp q2 hx (by rw [h1, hk])]
/-- A new leaf. -/
theorem AOK.leaf (h : AOK F r) {x : Hd × AN} (hx : x ∈ F) {b : UInt8} (hg : kget x.2.kids b = none) {g : Hd} (hgf : ∀ z, z ∈ F → z.1 ≠ g) (pre : Str) (v : Option Str) (nb nb' : Nat) :
    AOK (aset F x.1 { x.2 with kids := kput x.2.kids b g, nb := nb' } ++ [(g, ⟨x.2.path ++ b :: bl pre, pre, v, [], nb⟩)]) r := by
  have hm := fun z => mem_aset (F := F) (h := x.1) (n := { x.2 with kids := kput x.2.kids b g, nb := nb' }) (z := z) ⟨x.2, hx⟩
  have hkn := kget_none_iff.1 hg
  have hxg := hgf x hx
  have hp : (aset F x.1 { x.2 with kids := kput x.2.kids b g, nb := nb' }).map (·.2.path) = F.map (·.2.path) := by
    unfold aset
    rw [List.map_map]
    refine List.map_congr_left fun z hz => ?_
    show (if z.1 = x.1 then (x.1, ({ x.2 with kids := kput x.2.kids b g, nb := nb' } : AN)) else z).2.path = z.2.path
    split
    · next e => rw [h.un hz hx e]
    · rfl
  have hmm : ∀ z, z ∈ aset F x.1 { x.2 with kids := kput x.2.kids b g, nb := nb' } ++ [(g, ⟨x.2.path ++ b :: bl pre, pre, v, [], nb⟩)] ↔ z = (x.1, { x.2 with kids := kput x.2.kids b g, nb := nb' }) ∨ (z.1 ≠ x.1 ∧ z ∈ F) ∨ z = (g, ⟨x.2.path ++ b :: bl pre, pre, v, [], nb⟩) := fun z => by
    rw [List.mem_append, List.mem_singleton, hm, or_assoc]
  have old : ∀ z, z ∈ F → ∃ m, (z.1, m) ∈ aset F x.1 { x.2 with kids := kput x.2.kids b g, nb := nb' } ++ [(g, ⟨x.2.path ++ b :: bl pre, pre, v, [], nb⟩)] ∧ m.path = z.2.path ∧ m.pre = z.2.pre ∧ ∀ y, y ∈ z.2.kids → y ∈ m.kids := fun z hz => by
    by_cases e : z.1 = x.1
    · have := h.un hz hx e
      subst this
      exact ⟨_, (hmm _).2 (.inl rfl), rfl, rfl, fun y hy => mem_kput.2 (.inr ⟨hkn y hy, hy⟩)⟩
    · exact ⟨z.2, (hmm _).2 (.inr (.inl ⟨e, hz⟩)), rfl, rfl, fun y hy => hy⟩
  refine ⟨?_, ?_, ?_, fun z hz y hy => ?_, fun z hz => ?_, fun z hz => ?_⟩
  · rw [List.map_append, aset_fst]
    refine List.nodup_append.2 ⟨h.nd, by simp, fun a ha b' hb e => ?_⟩
    obtain ⟨z, hz, rfl⟩ := List.mem_map.1 ha
    simp at hb
    exact hgf z hz (by rw [e, hb])
  · rw [List.map_append, hp]
    refine List.nodup_append.2 ⟨h.pd, by simp, fun a ha b' hb e => ?_⟩
    obtain ⟨z, hz, rfl⟩ := List.mem_map.1 ha
    simp at hb
    rw [hb] at e
    have hpx : x.2.path <+: z.2.path := ⟨b :: bl pre, e.symm⟩
    rcases h.under hx hz hpx with e1 | ⟨y, hy, m, q1, q2, s, q3⟩
    · rw [e1] at e
      have := congrArg List.length e
      simp at this
    · rw [q2, e, List.append_assoc] at q3
      have := List.append_cancel_left q3
      simp only [List.cons_append, List.cons.injEq] at this
      exact hkn y hy this.1
  · obtain ⟨n, h1, h2, h3⟩ := h.root
    obtain ⟨m, q1, q2, q3, _⟩ := old _ h1
    exact ⟨m, q1, q2.trans h2, q3.trans h3⟩
  · rcases (hmm z).1 hz with rfl | ⟨q1, q2⟩ | rfl
    · rcases mem_kput.1 hy with rfl | ⟨p1, p2⟩
      · exact ⟨_, (hmm _).2 (.inr (.inr rfl)), rfl⟩
      · obtain ⟨m, s1, s2⟩ := h.dn x hx y p2
        obtain ⟨m', t1, t2, t3, _⟩ := old _ s1
        exact ⟨m', t1, by rw [t2, t3]; exact s2⟩
    · obtain ⟨m, s1, s2⟩ := h.dn z q2 y hy
      obtain ⟨m', t1, t2, t3, _⟩ := old _ s1
      exact ⟨m', t1, by rw [t2, t3]; exact s2⟩
    · cases hy
  · have up : ∀ z, z ∈ F → z.1 = r ∨ ∃ y, y ∈ aset F x.1 { x.2 with kids := kput x.2.kids b g, nb := nb' } ++ [(g, ⟨x.2.path ++ b :: bl pre, pre, v, [], nb⟩)] ∧ ∃ c, (c, z.1) ∈ y.2.kids := fun z hz => by
      rcases h.up z hz with e | ⟨y, hy, c, hc⟩
      · exact .inl e
      · obtain ⟨m, t1, _, _, t4⟩ := old _ hy
        exact .inr ⟨_, t1, c, t4 _ hc⟩
    rcases (hmm z).1 hz with rfl | ⟨q1, q2⟩ | rfl
    · exact up x hx
    · exact up z q2
    · exact .inr ⟨_, (hmm _).2 (.inl rfl), b, mem_kput.2 (.inl rfl)⟩
  · rcases (hmm z).1 hz with rfl | ⟨q1, q2⟩ | rfl
    · exact ks_put (h.srt x hx) b g
    · exact h.srt z q2
    · exact List.Pairwise.nil
theorem ACt.leaf (hc : ACt F C) {x : Hd × AN} (hx : x ∈ F) (h : AOK F r) {b : UInt8} (hg : kget x.2.kids b = none) {g : Hd} {pre k v : Str} {nb nb' : Nat} (hk : bl k = x.2.path ++ b :: bl pre) :
    ACt (aset F x.1 { x.2 with kids := kput x.2.kids b g, nb := nb' } ++ [(g, ⟨x.2.path ++ b :: bl pre, pre, some v, [], nb⟩)]) (cput C k v) := by
  have hm := fun z => mem_aset (F := F) (h := x.1) (n := { x.2 with kids := kput x.2.kids b g, nb := nb' }) (z := z) ⟨x.2, hx⟩
  have hkn := kget_none_iff.1 hg
  have hno : ∀ z, z ∈ F → z.2.path ≠ bl k := fun z hz e => by
    rw [hk] at e
    have hpx : x.2.path <+: z.2.path := ⟨b :: bl pre, e.symm⟩
    rcases h.under hx hz hpx with e1 | ⟨y, hy, m, q1, q2, s, q3⟩
    · rw [e1] at e
      have := congrArg List.length e
      simp at this
    · rw [q2, e, List.append_assoc] at q3
      have := List.append_cancel_left q3
      simp only [List.cons_append, List.cons.injEq] at this
      exact hkn y hy this.1
  refine ⟨cs_put hc.srt k v, fun k' v' => ?_⟩
  rw [mem_cput hc.srt]
  by_cases e : k = k'
  · subst e
    rw [if_pos rfl]
    constructor
    · intro e; subst e
      exact ⟨_, List.mem_append.2 (.inr (List.mem_singleton.2 rfl)), hk.symm, rfl⟩
    · rintro ⟨z, hz, h1, h2⟩
      rcases List.mem_append.1 hz with hz | hz
      · rcases (hm z).1 hz with rfl | ⟨q1, q2⟩
        · exact absurd h1 (hno x hx)
        · exact absurd h1 (hno z q2)
      · rw [List.mem_singleton.1 hz] at h2
        simp only [Option.some.injEq] at h2
        exact h2.symm
  · rw [if_neg e, hc.mem]
    constructor
    · rintro ⟨z, hz, h1, h2⟩
      by_cases e1 : z.1 = x.1
      · have := h.un hz hx e1
        subst this
        exact ⟨_, List.mem_append.2 (.inl ((hm _).2 (.inl rfl))), h1, h2⟩
      · exact ⟨z, List.mem_append.2 (.inl ((hm z).2 (.inr ⟨e1, hz⟩))), h1, h2⟩
    · rintro ⟨z, hz, h1, h2⟩
      rcases List.mem_append.1 hz with hz | hz
      · rcases (hm z).1 hz with rfl | ⟨q1, q2⟩
        · exact ⟨x, hx, h1, h2⟩
        · exact ⟨z, q2, h1, h2⟩
      · rw [List.mem_singleton.1 hz] at h1
        simp only at h1
        rw [← hk] at h1
        exact absurd (bl_inj h1) e
end
end Go.Proofs.YtmhlokomlngdmaaGreat
namespace Go.Proofs.YtmhlokomlngdmaaGreat
section
variable {F : AF} {r : Hd} {C : Cont}
/-- The parent's path and byte ahead of a node's own text. -/
theorem AOK.base (h : AOK F r) {x : Hd × AN} (hx : x ∈ F) (hr : x.1 ≠ r) : ∃ p, p ∈ F ∧ ∃ b, (b, x.1) ∈ p.2.kids ∧ x.2.path = p.2.path ++ b :: bl x.2.pre := by
  rcases h.up x hx with e | ⟨p, hp, b, hb⟩
  · exact absurd e hr
  · obtain ⟨m, hm, he⟩ := h.dn p hp _ hb
    have := h.un hm hx rfl
    refine ⟨p, hp, b, hb, ?_⟩
    rw [← this]
    exact he
theorem AOK.root_pre (h : AOK F r) {x : Hd × AN} (hx : x ∈ F) (hr : x.1 = r) : x.2.pre = s0 ∧ x.2.path = [] := by
  obtain ⟨n, h1, h2, h3⟩ := h.root
  have := h.un hx h1 hr
  rw [this]
  exact ⟨h3, h2⟩
/-- No node ends within a node's own text. -/
theorem AOK.gap (h : AOK F r) {x z : Hd × AN} (hx : x ∈ F) (hr : x.1 ≠ r) (hz : z ∈ F) {s t u : Byt} (hp : x.2.path = s ++ bl x.2.pre) (hpre : bl x.2.pre = t ++ u) (hu : u ≠ []) : z.2.path ≠ s ++ t := fun e => by
  obtain ⟨p, hpF, b, hb, hpe⟩ := h.base hx hr
  have hs : s = p.2.path ++ [b] := by
    rw [hp] at hpe
    have : s ++ bl x.2.pre = (p.2.path ++ [b]) ++ bl x.2.pre := by rw [hpe]; simp
    exact List.append_cancel_right this
  have hm : (b, x.1) ∈ p.2.kids := hb
  have := h.via hpF hz hm (m := x.2) hx (by rw [e, hs]; exact List.prefix_append _ _)
  have h1 := this.length_le
  rw [e, hp, hpre, List.length_append, List.length_append, List.length_append] at h1
  have : 0 < u.length := List.length_pos_iff.2 hu
  omega
/-- A node is split within its own text. -/
theorem AOK.split (h : AOK F r) {x : Hd × AN} (hx : x ∈ F) (hr : x.1 ≠ r) {s q t : Byt} {b : UInt8} {qs ts : Str} (hp : x.2.path = s ++ bl x.2.pre) (hpre : bl x.2.pre = q ++ b :: t) (hq : bl qs = q) (ht : bl ts = t) {g : Hd} (hgf : ∀ z, z ∈ F → z.1 ≠ g) (v : Option Str) (nb : Nat) :
    AOK (aset F x.1 ⟨s ++ q, qs, v, [(b, g)], nb⟩ ++ [(g, { x.2 with pre := ts })]) r := by
  have hm := fun z => mem_aset (F := F) (h := x.1) (n := ⟨s ++ q, qs, v, [(b, g)], nb⟩) (z := z) ⟨x.2, hx⟩
  have hmm : ∀ z, z ∈ aset F x.1 ⟨s ++ q, qs, v, [(b, g)], nb⟩ ++ [(g, { x.2 with pre := ts })] ↔ z = (x.1, ⟨s ++ q, qs, v, [(b, g)], nb⟩) ∨ (z.1 ≠ x.1 ∧ z ∈ F) ∨ z = (g, { x.2 with pre := ts }) := fun z => by
    rw [List.mem_append, List.mem_singleton, hm, or_assoc]
  have hgap : ∀ z, z ∈ F → z.2.path ≠ s ++ q := fun z hz => h.gap hx hr hz hp hpre (by simp)
  have hxg := hgf x hx
  obtain ⟨p0, hp0, b0, hb0, hpe0⟩ := h.base hx hr
  have hs : s = p0.2.path ++ [b0] := by
    rw [hp] at hpe0
    have : s ++ bl x.2.pre = (p0.2.path ++ [b0]) ++ bl x.2.pre := by rw [hpe0]; simp
    exact List.append_cancel_right this
  -- whoever led to a node leads to it still
  have hdn : ∀ z, z ∈ F → ∀ y, y ∈ z.2.kids → ∃ m, (y.2, m) ∈ aset F x.1 ⟨s ++ q, qs, v, [(b, g)], nb⟩ ++ [(g, { x.2 with pre := ts })] ∧ m.path = z.2.path ++ y.1 :: bl m.pre := fun z hz y hy => by
    obtain ⟨m, q1, q2⟩ := h.dn z hz y hy
    by_cases e : y.2 = x.1
    · have hme := h.un q1 hx e
      have hmx : m = x.2 := by rw [← hme]
      subst hmx
      refine ⟨_, (hmm _).2 (.inl (by rw [e])), ?_⟩
      show s ++ q = z.2.path ++ y.1 :: bl qs
      rw [hp] at q2
      have : s ++ bl x.2.pre = (z.2.path ++ [y.1]) ++ bl x.2.pre := by rw [q2]; simp
      rw [List.append_cancel_right this, hq]
      simp
    · exact ⟨m, (hmm _).2 (.inr (.inl ⟨e, q1⟩)), q2⟩
  refine ⟨?_, ?_, ?_, fun z hz y hy => ?_, fun z hz => ?_, fun z hz => ?_⟩
  · rw [List.map_append, aset_fst]
    refine List.nodup_append.2 ⟨h.nd, by simp, fun a ha b' hb e => ?_⟩
    obtain ⟨z, hz, rfl⟩ := List.mem_map.1 ha
    simp at hb
    exact hgf z hz (by rw [e, hb])
  · have hnd : (aset F x.1 ⟨s ++ q, qs, v, [(b, g)], nb⟩ ++ [(g, { x.2 with pre := ts })]).Nodup := by
      refine nodup_of_map (f := (·.1)) ?_
      rw [List.map_append, aset_fst]
      refine List.nodup_append.2 ⟨h.nd, by simp, fun a ha b' hb e => ?_⟩
      obtain ⟨z, hz, rfl⟩ := List.mem_map.1 ha
      simp at hb
      exact hgf z hz (by rw [e, hb])
    refine nodup_iff_inj hnd fun y z hy hz e => ?_
    rcases (hmm y).1 hy with rfl | ⟨p1, p2⟩ | rfl <;> rcases (hmm z).1 hz with rfl | ⟨q1, q2⟩ | rfl
    · rfl
    · exact absurd e.symm (hgap z q2)
    · exact absurd e.symm (hgap x hx)
    · exact absurd e (hgap y p2)
    · exact h.unp p2 q2 e
    · exact absurd (by rw [h.unp p2 hx e]) p1
    · exact absurd e (hgap x hx)
    · exact absurd (by rw [h.unp q2 hx e.symm]) q1
    · rfl
  · obtain ⟨n, h1, h2, h3⟩ := h.root
    exact ⟨n, (hmm _).2 (.inr (.inl ⟨Ne.symm hr, h1⟩)), h2, h3⟩
  · rcases (hmm z).1 hz with rfl | ⟨q1, q2⟩ | rfl
    · rw [List.mem_singleton.1 hy]
      refine ⟨_, (hmm _).2 (.inr (.inr rfl)), ?_⟩
      show x.2.path = (s ++ q) ++ b :: bl ts
      rw [hp, hpre, ht]
      simp
    · exact hdn z q2 y hy
    · exact hdn x hx y hy
  · have hup : ∀ w, w ∈ F → w.1 = r ∨ ∃ y, y ∈ aset F x.1 ⟨s ++ q, qs, v, [(b, g)], nb⟩ ++ [(g, { x.2 with pre := ts })] ∧ ∃ c, (c, w.1) ∈ y.2.kids := fun w hw => by
      rcases h.up w hw with e | ⟨y, hy, c, hc⟩
      · exact .inl e
      · by_cases e : y.1 = x.1
        · have := h.un hy hx e
          subst this
          exact .inr ⟨_, (hmm _).2 (.inr (.inr rfl)), c, hc⟩
        · exact .inr ⟨y, (hmm _).2 (.inr (.inl ⟨e, hy⟩)), c, hc⟩
    rcases (hmm z).1 hz with rfl | ⟨q1, q2⟩ | rfl
    · exact hup x hx
    · exact hup z q2
    · exact .inr ⟨_, (hmm _).2 (.inl rfl), b, by simp⟩
  · rcases (hmm z).1 hz with rfl | ⟨q1, q2⟩ | rfl
    · exact List.pairwise_singleton _ _
    · exact h.srt z q2
    · exact h.srt x hx
theorem ACt.split (hc : ACt F C) (h : AOK F r) {x : Hd × AN} (hx : x ∈ F) (hr : x.1 ≠ r) {s q t : Byt} {b : UInt8} {qs ts : Str} (hp : x.2.path = s ++ bl x.2.pre) (hpre : bl x.2.pre = q ++ b :: t) {g : Hd} {nb : Nat} :
    ACt (aset F x.1 ⟨s ++ q, qs, none, [(b, g)], nb⟩ ++ [(g, { x.2 with pre := ts })]) C ∧ ∀ k v, bl k = s ++ q → ACt (aset F x.1 ⟨s ++ q, qs, some v, [(b, g)], nb⟩ ++ [(g, { x.2 with pre := ts })]) (cput C k v) := by
  have hmm : ∀ v z, z ∈ aset F x.1 ⟨s ++ q, qs, v, [(b, g)], nb⟩ ++ [(g, { x.2 with pre := ts })] ↔ z = (x.1, ⟨s ++ q, qs, v, [(b, g)], nb⟩) ∨ (z.1 ≠ x.1 ∧ z ∈ F) ∨ z = (g, { x.2 with pre := ts }) := fun v z => by
    rw [List.mem_append, List.mem_singleton, mem_aset ⟨x.2, hx⟩, or_assoc]
  have hgap : ∀ z, z ∈ F → z.2.path ≠ s ++ q := fun z hz => h.gap hx hr hz hp hpre (by simp)
  have old : ∀ v z, z ∈ F → ∃ y, y ∈ aset F x.1 ⟨s ++ q, qs, v, [(b, g)], nb⟩ ++ [(g, { x.2 with pre := ts })] ∧ y.2.path = z.2.path ∧ y.2.val = z.2.val := fun v z hz => by
    by_cases e : z.1 = x.1
    · have := h.un hz hx e
      subst this
      exact ⟨_, (hmm v _).2 (.inr (.inr rfl)), rfl, rfl⟩
    · exact ⟨z, (hmm v _).2 (.inr (.inl ⟨e, hz⟩)), rfl, rfl⟩
  refine ⟨⟨hc.srt, fun k' v' => ?_⟩, fun k v hk => ⟨cs_put hc.srt k v, fun k' v' => ?_⟩⟩
  · rw [hc.mem]
    constructor
    · rintro ⟨z, hz, h1, h2⟩
      obtain ⟨y, q1, q2, q3⟩ := old none z hz
      exact ⟨y, q1, q2.trans h1, q3.trans h2⟩
    · rintro ⟨z, hz, h1, h2⟩
      rcases (hmm none z).1 hz with rfl | ⟨q1, q2⟩ | rfl
      · cases h2
      · exact ⟨z, q2, h1, h2⟩
      · exact ⟨x, hx, h1, h2⟩
  · rw [mem_cput hc.srt]
    by_cases e : k = k'
    · subst e
      rw [if_pos rfl]
      constructor
      · intro e; subst e
        exact ⟨_, (hmm _ _).2 (.inl rfl), hk.symm, rfl⟩
      · rintro ⟨z, hz, h1, h2⟩
        rcases (hmm _ z).1 hz with rfl | ⟨q1, q2⟩ | rfl
        · simp only [Option.some.injEq] at h2; exact h2.symm
        · exact absurd (h1.trans hk) (hgap z q2)
        · exact absurd (h1.trans hk) (hgap x hx)
    · rw [if_neg e, hc.mem]
      constructor
      · rintro ⟨z, hz, h1, h2⟩
        obtain ⟨y, q1, q2, q3⟩ := old (some v) z hz
        exact ⟨y, q1, q2.trans h1, q3.trans h2⟩
      · rintro ⟨z, hz, h1, h2⟩
        rcases (hmm _ z).1 hz with rfl | ⟨q1, q2⟩ | rfl
        · simp only at h1
          rw [← hk] at h1
          exact absurd (bl_inj h1) e
        · exact ⟨z, q2, h1, h2⟩
        · exact ⟨x, hx, h1, h2⟩
/-- A leaf without a value goes. -/
theorem AOK.dropLeaf (h : AOK F r) {p z : Hd × AN} (hp : p ∈ F) (hz : z ∈ F) {b : UInt8} (hb : (b, z.1) ∈ p.2.kids) (hk : z.2.kids = []) (nb' : Nat) : AOK (adel (aset F p.1 { p.2 with kids := kdel p.2.kids b, nb := nb' }) z.1) r := by
  have hzp : z.2.path = p.2.path ++ b :: bl z.2.pre := by
    obtain ⟨m, h1, h2⟩ := h.dn p hp _ hb
    have := h.un h1 hz rfl
    rw [← this]; exact h2
  have hne : p.1 ≠ z.1 := fun e => by
    have := h.un hp hz e
    rw [this] at hzp
    have := congrArg List.length hzp
    simp at this
  have hzr : z.1 ≠ r := fun e => by
    have := (h.root_pre hz e).2
    rw [this] at hzp
    simp at hzp
  have hm : ∀ y, y ∈ adel (aset F p.1 { p.2 with kids := kdel p.2.kids b, nb := nb' }) z.1 ↔ y = (p.1, { p.2 with kids := kdel p.2.kids b, nb := nb' }) ∨ (y.1 ≠ z.1 ∧ y.1 ≠ p.1 ∧ y ∈ F) := fun y => by
    rw [mem_adel, mem_aset ⟨p.2, hp⟩]
    constructor
    · rintro ⟨h1, h2 | h2⟩
      · exact .inl h2
      · exact .inr ⟨h1, h2⟩
    · rintro (rfl | ⟨h1, h2⟩)
      · exact ⟨hne, .inl rfl⟩
      · exact ⟨h1, .inr h2⟩
  have hpaths : (aset F p.1 { p.2 with kids := kdel p.2.kids b, nb := nb' }).map (·.2.path) = F.map (·.2.path) := by
    unfold aset
    rw [List.map_map]
    refine List.map_congr_left fun w hw => ?_
    show (if w.1 = p.1 then (p.1, ({ p.2 with kids := kdel p.2.kids b, nb := nb' } : AN)) else w).2.path = w.2.path
    split
    · next e => rw [h.un hw hp e]
    · rfl
  have old : ∀ w, w ∈ F → w.1 ≠ z.1 → ∃ m, (w.1, m) ∈ adel (aset F p.1 { p.2 with kids := kdel p.2.kids b, nb := nb' }) z.1 ∧ m.path = w.2.path ∧ m.pre = w.2.pre ∧ ∀ y, y ∈ w.2.kids → y.2 ≠ z.1 → y ∈ m.kids := fun w hw hwz => by
    by_cases e : w.1 = p.1
    · have := h.un hw hp e
      subst this
      refine ⟨_, (hm _).2 (.inl rfl), rfl, rfl, fun y hy hyz => mem_kdel.2 ⟨fun e => hyz ?_, hy⟩⟩
      exact ks_uniq (h.srt _ hp) (by rw [← e]; exact hy) hb
    · exact ⟨w.2, (hm _).2 (.inr ⟨hwz, e, hw⟩), rfl, rfl, fun y hy _ => hy⟩
  -- nobody else leads to the leaf
  have honly : ∀ w, w ∈ F → ∀ y, y ∈ w.2.kids → y.2 = z.1 → w = p ∧ y.1 = b := fun w hw y hy e => by
    obtain ⟨m, q1, q2⟩ := h.dn w hw y hy
    have hmz := h.un q1 hz e
    have hmz2 : m = z.2 := by rw [← hmz]
    rw [hmz2, hzp] at q2
    have h3 : (p.2.path ++ [b]) ++ bl z.2.pre = (w.2.path ++ [y.1]) ++ bl z.2.pre := by simpa using q2
    have h4 := List.append_cancel_right h3
    obtain ⟨h5, h6⟩ := List.append_inj' h4 rfl
    simp only [List.cons.injEq, and_true] at h6
    exact ⟨h.unp hw hp h5.symm, h6.symm⟩
  refine ⟨?_, ?_, ?_, fun w hw y hy => ?_, fun w hw => ?_, fun w hw => ?_⟩
  · exact List.Pairwise.sublist (List.Sublist.map _ List.filter_sublist) (by rw [aset_fst]; exact h.nd)
  · exact List.Pairwise.sublist (List.Sublist.map _ List.filter_sublist) (by rw [hpaths]; exact h.pd)
  · obtain ⟨n, h1, h2, h3⟩ := h.root
    obtain ⟨m, q1, q2, q3, _⟩ := old _ h1 (Ne.symm hzr)
    exact ⟨m, q1, q2.trans h2, q3.trans h3⟩
  · have key : ∀ w', w' ∈ F → y ∈ w'.2.kids → y.2 ≠ z.1 → ∃ m, (y.2, m) ∈ adel (aset F p.1 { p.2 with kids := kdel p.2.kids b, nb := nb' }) z.1 ∧ m.path = w'.2.path ++ y.1 :: bl m.pre := fun w' hw' hy' hyz => by
      obtain ⟨m, s1, s2⟩ := h.dn w' hw' y hy'
      obtain ⟨m', t1, t2, t3, _⟩ := old _ s1 hyz
      exact ⟨m', t1, by rw [t2, t3]; exact s2⟩
    rcases (hm w).1 hw with rfl | ⟨q1, q2, q3⟩
    · obtain ⟨p1, p2⟩ := mem_kdel.1 hy
      exact key p hp p2 fun e => p1 (honly p hp y p2 e).2
    · exact key w q3 hy fun e => q2 (by rw [(honly w q3 y hy e).1])
  · have up : ∀ w', w' ∈ F → w'.1 ≠ z.1 → w'.1 = r ∨ ∃ y, y ∈ adel (aset F p.1 { p.2 with kids := kdel p.2.kids b, nb := nb' }) z.1 ∧ ∃ c, (c, w'.1) ∈ y.2.kids := fun w' hw' hwz => by
      rcases h.up w' hw' with e | ⟨y, hy, c, hc⟩
      · exact .inl e
      · have hyz : y.1 ≠ z.1 := fun e => by
          have := h.un hy hz e
          rw [this, hk] at hc
          cases hc
        obtain ⟨m, t1, _, _, t4⟩ := old _ hy hyz
        exact .inr ⟨_, t1, c, t4 _ hc hwz⟩
    rcases (hm w).1 hw with rfl | ⟨q1, q2, q3⟩
    · exact up p hp hne
    · exact up w q3 q1
  · rcases (hm w).1 hw with rfl | ⟨q1, q2, q3⟩
    · exact ks_del (h.srt p hp) b
    · exact h.srt w q3
theorem ACt.dropLeaf (hc : ACt F C) (h : AOK F r) {p z : Hd × AN} (hp : p ∈ F) (hz : z ∈ F) {b : UInt8} (hb : (b, z.1) ∈ p.2.kids) (hv : z.2.val = none) (nb' : Nat) : ACt (adel (aset F p.1 { p.2 with kids := kdel p.2.kids b, nb := nb' }) z.1) C := by
  have hzp : z.2.path = p.2.path ++ b :: bl z.2.pre := by
    obtain ⟨m, h1, h2⟩ := h.dn p hp _ hb
    have := h.un h1 hz rfl
    rw [← this]; exact h2
  have hne : p.1 ≠ z.1 := fun e => by
    have := h.un hp hz e
    rw [this] at hzp
    have := congrArg List.length hzp
    simp at this
  refine ⟨hc.srt, fun k v => ?_⟩
  rw [hc.mem]
  constructor
  · rintro ⟨w, hw, h1, h2⟩
    have hwz : w.1 ≠ z.1 := fun e => by
      rw [h.un hw hz e, hv] at h2
      cases h2
    by_cases e : w.1 = p.1
    · have := h.un hw hp e
      subst this
      exact ⟨(w.1, { w.2 with kids := kdel w.2.kids b, nb := nb' }), mem_adel.2 ⟨hne, (mem_aset ⟨w.2, hp⟩).2 (.inl rfl)⟩, h1, h2⟩
    · exact ⟨w, mem_adel.2 ⟨hwz, (mem_aset ⟨p.2, hp⟩).2 (.inr ⟨e, hw⟩)⟩, h1, h2⟩
  · rintro ⟨w, hw, h1, h2⟩
    rcases (mem_aset ⟨p.2, hp⟩).1 (mem_adel.1 hw).2 with rfl | ⟨q1, q2⟩
    · exact ⟨p, hp, h1, h2⟩
    · exact ⟨w, q2, h1, h2⟩
/-- A node takes its only kid in. -/
theorem AOK.join (h : AOK F r) {x : Hd × AN} (hx : x ∈ F) (hr : x.1 ≠ r) {b : UInt8} {g : Hd} (hk : x.2.kids = [(b, g)]) {m : AN} (hm0 : (g, m) ∈ F) {ps : Str} (hps : bl ps = bl x.2.pre ++ b :: bl m.pre) : AOK (adel (aset F x.1 { m with pre := ps }) g) r := by
  have hmp : m.path = x.2.path ++ b :: bl m.pre := by
    obtain ⟨m', h1, h2⟩ := h.dn x hx (b, g) (by rw [hk]; simp)
    have := h.un h1 hm0 rfl
    injection this with _ this
    rw [← this]; exact h2
  have hne : x.1 ≠ g := fun e => by
    have := h.un hx hm0 e
    have h2 : x.2 = m := by rw [this]
    rw [h2] at hmp
    have := congrArg List.length hmp
    simp at this
  have hgr : g ≠ r := fun e => by
    have := (h.root_pre hm0 e).2
    simp only at this
    rw [this] at hmp
    simp at hmp
  have hm : ∀ y, y ∈ adel (aset F x.1 { m with pre := ps }) g ↔ y = (x.1, { m with pre := ps }) ∨ (y.1 ≠ g ∧ y.1 ≠ x.1 ∧ y ∈ F) := fun y => by
    rw [mem_adel, mem_aset ⟨x.2, hx⟩]
    constructor
    · rintro ⟨h1, h2 | h2⟩
      · exact .inl h2
      · exact .inr ⟨h1, h2⟩
    · rintro (rfl | ⟨h1, h2⟩)
      · exact ⟨hne, .inl rfl⟩
      · exact ⟨h1, .inr h2⟩
  -- nobody else leads to the kid
  have honly : ∀ w, w ∈ F → ∀ y, y ∈ w.2.kids → y.2 = g → w = x := fun w hw y hy e => by
    obtain ⟨m', q1, q2⟩ := h.dn w hw y hy
    have hmz := h.un q1 hm0 e
    have hmz2 : m' = m := by injection hmz
    rw [hmz2, hmp] at q2
    have h3 : (x.2.path ++ [b]) ++ bl m.pre = (w.2.path ++ [y.1]) ++ bl m.pre := by simpa using q2
    have h4 := List.append_cancel_right h3
    obtain ⟨h5, h6⟩ := List.append_inj' h4 rfl
    exact h.unp hw hx h5.symm
  have hdn : ∀ w, w ∈ F → w ≠ x → ∀ y, y ∈ w.2.kids → ∃ m', (y.2, m') ∈ adel (aset F x.1 { m with pre := ps }) g ∧ m'.path = w.2.path ++ y.1 :: bl m'.pre := fun w hw hwx y hy => by
    obtain ⟨m', q1, q2⟩ := h.dn w hw y hy
    have hyg : y.2 ≠ g := fun e => hwx (honly w hw y hy e)
    by_cases e : y.2 = x.1
    · have hme := h.un q1 hx e
      have hmx : m' = x.2 := by rw [← hme]
      rw [hmx] at q2
      refine ⟨_, (hm _).2 (.inl (by rw [e])), ?_⟩
      show m.path = w.2.path ++ y.1 :: bl ps
      rw [hmp, q2, hps]
      simp
    · exact ⟨m', (hm _).2 (.inr ⟨hyg, e, q1⟩), q2⟩
  refine ⟨?_, ?_, ?_, fun w hw y hy => ?_, fun w hw => ?_, fun w hw => ?_⟩
  · exact List.Pairwise.sublist (List.Sublist.map _ List.filter_sublist) (by rw [aset_fst]; exact h.nd)
  · have hnd : (adel (aset F x.1 { m with pre := ps }) g).Nodup := nodup_of_map (f := (·.1)) (List.Pairwise.sublist (List.Sublist.map _ List.filter_sublist) (by rw [aset_fst]; exact h.nd))
    refine nodup_iff_inj hnd fun y z hy hz e => ?_
    rcases (hm y).1 hy with rfl | ⟨p1, p2, p3⟩ <;> rcases (hm z).1 hz with rfl | ⟨q1, q2, q3⟩
    · rfl
    · exact absurd (by rw [h.unp q3 hm0 e.symm]) q1
    · exact absurd (by rw [h.unp p3 hm0 e]) p1
    · exact h.unp p3 q3 e
  · obtain ⟨n, h1, h2, h3⟩ := h.root
    exact ⟨n, (hm _).2 (.inr ⟨Ne.symm hgr, Ne.symm hr, h1⟩), h2, h3⟩
  · rcases (hm w).1 hw with rfl | ⟨q1, q2, q3⟩
    · refine hdn (g, m) hm0 (fun e => hne ?_) y hy
      rw [← e]
    · exact hdn w q3 (fun e => q2 (by rw [e])) y hy
  · have hup : ∀ w', w' ∈ F → w'.1 ≠ g → w'.1 = r ∨ ∃ y, y ∈ adel (aset F x.1 { m with pre := ps }) g ∧ ∃ c, (c, w'.1) ∈ y.2.kids := fun w' hw' hwg => by
      rcases h.up w' hw' with e | ⟨y, hy, c, hc⟩
      · exact .inl e
      · by_cases e : y.1 = g
        · have := h.un hy hm0 e
          have h2 : y.2 = m := by rw [this]
          rw [h2] at hc
          exact .inr ⟨_, (hm _).2 (.inl rfl), c, hc⟩
        · by_cases e2 : y.1 = x.1
          · have := h.un hy hx e2
            rw [this, hk] at hc
            simp only [List.mem_singleton, Prod.mk.injEq] at hc
            exact absurd hc.2 hwg
          · exact .inr ⟨y, (hm _).2 (.inr ⟨e, e2, hy⟩), c, hc⟩
    rcases (hm w).1 hw with rfl | ⟨q1, q2, q3⟩
    · exact hup x hx hne
    · exact hup w q3 q1
  · rcases (hm w).1 hw with rfl | ⟨q1, q2, q3⟩
    · exact h.srt (g, m) hm0
    · exact h.srt w q3
theorem ACt.join (hc : ACt F C) (h : AOK F r) {x : Hd × AN} (hx : x ∈ F) (hv : x.2.val = none) {b : UInt8} {g : Hd} (hk : x.2.kids = [(b, g)]) {m : AN} (hm0 : (g, m) ∈ F) {ps : Str} : ACt (adel (aset F x.1 { m with pre := ps }) g) C := by
  have hmp : m.path = x.2.path ++ b :: bl m.pre := by
    obtain ⟨m', h1, h2⟩ := h.dn x hx (b, g) (by rw [hk]; simp)
    have := h.un h1 hm0 rfl
    injection this with _ this
    rw [← this]; exact h2
  have hne : x.1 ≠ g := fun e => by
    have := h.un hx hm0 e
    have h2 : x.2 = m := by rw [this]
    rw [h2] at hmp
    have := congrArg List.length hmp
    simp at this
  refine ⟨hc.srt, fun k v => ?_⟩
  rw [hc.mem]
  constructor
  · rintro ⟨w, hw, h1, h2⟩
    have hwx : w.1 ≠ x.1 := fun e => by
      rw [h.un hw hx e, hv] at h2
      cases h2
    by_cases e : w.1 = g
    · have := h.un hw hm0 e
      have h3 : w.2 = m := by rw [this]
      rw [h3] at h1 h2
      exact ⟨(x.1, { m with pre := ps }), mem_adel.2 ⟨hne, (mem_aset ⟨x.2, hx⟩).2 (.inl rfl)⟩, h1, h2⟩
    · exact ⟨w, mem_adel.2 ⟨e, (mem_aset ⟨x.2, hx⟩).2 (.inr ⟨hwx, hw⟩)⟩, h1, h2⟩
  · rintro ⟨w, hw, h1, h2⟩
    rcases (mem_aset ⟨x.2, hx⟩).1 (mem_adel.1 hw).2 with rfl | ⟨q1, q2⟩
    · exact ⟨(g, m), hm0, h1, h2⟩
    · exact ⟨w, q2, h1, h2⟩
end
end Go.Proofs.YtmhlokomlngdmaaGreat
namespace Go.Proofs.YtmhlokomlngdmaaGreat
def cpre : Byt → Byt → Byt
  | a :: as, b :: bs => if a = b then a :: cpre as bs else []
  | _, _ => []
theorem cpre_l : ∀ a b : Byt, cpre a b <+: a
  | [], _ => by unfold cpre; exact List.nil_prefix
  | _ :: _, [] => by unfold cpre; exact List.nil_prefix
  | a :: as, b :: bs => by
    unfold cpre
    split
    · exact List.cons_prefix_cons.2 ⟨rfl, cpre_l as bs⟩
    · exact List.nil_prefix
theorem cpre_r : ∀ a b : Byt, cpre a b <+: b
  | [], _ => by unfold cpre; exact List.nil_prefix
  | _ :: _, [] => by unfold cpre; exact List.nil_prefix
  | a :: as, b :: bs => by
    unfold cpre
    split
    · next e => exact List.cons_prefix_cons.2 ⟨e, cpre_r as bs⟩
    · exact List.nil_prefix
theorem cpre_max : ∀ {p a b : Byt}, p <+: a → p <+: b → p <+: cpre a b
  | [], _, _, _, _ => List.nil_prefix
  | x :: p, [], _, h, _ => by simp at h
  | x :: p, _ :: _, [], _, h => by simp at h
  | x :: p, a :: as, b :: bs, h1, h2 => by
    obtain ⟨e1, h1⟩ := List.cons_prefix_cons.1 h1
    obtain ⟨e2, h2⟩ := List.cons_prefix_cons.1 h2
    unfold cpre
    rw [if_pos (by rw [← e1, ← e2])]
    exact List.cons_prefix_cons.2 ⟨e1, cpre_max h1 h2⟩
theorem cpre_part {x y : UInt8} (h : x ≠ y) (s t : Byt) : ∀ p : Byt, cpre (p ++ x :: s) (p ++ y :: t) = p
  | [] => by
    show cpre (x :: s) (y :: t) = []
    unfold cpre
    rw [if_neg h]
  | a :: p => by
    show cpre (a :: (p ++ x :: s)) (a :: (p ++ y :: t)) = _
    unfold cpre
    rw [if_pos rfl, cpre_part h s t p]
theorem cpre_comm : ∀ a b : Byt, cpre a b = cpre b a
  | [], [] => rfl
  | [], _ :: _ => rfl
  | _ :: _, [] => rfl
  | a :: as, b :: bs => by
    unfold cpre
    by_cases e : a = b
    · rw [if_pos e, if_pos e.symm, e, cpre_comm as bs]
    · rw [if_neg e, if_neg (Ne.symm e)]
theorem pre_eq {p q : Byt} (h : p <+: q) (h' : q <+: p) : p = q := h.eq_of_length (Nat.le_antisymm h.length_le h'.length_le)
def ANrm (F : AF) (r : Hd) : Prop := ∀ x, x ∈ F → x.1 = r ∨ x.2.val.isSome = true ∨ 2 ≤ x.2.kids.length
section
variable {F : AF} {r : Hd} {C : Cont}
/-- Under each node but the root there is a key. -/
theorem key_under (h : AOK F r) (hc : ACt F C) (hn : ANrm F r) : ∀ (n : Nat) (x : Hd × AN), (nsub F x.2.path).length ≤ n → x ∈ F → x.1 ≠ r → ∃ kv, kv ∈ C ∧ x.2.path <+: bl kv.1 := by
  intro n
  induction n with
  | zero =>
    intro x hl hx _
    have : x ∈ nsub F x.2.path := mem_nsub.2 ⟨hx, List.prefix_refl _⟩
    have := List.length_pos_of_mem this
    omega
  | succ n ih =>
    intro x hl hx hr
    cases hv : x.2.val with
    | some v => exact ⟨(bs x.2.path, v), (hc.mem _ _).2 ⟨x, hx, (bl_bs _).symm, hv⟩, by rw [bl_bs]; exact List.prefix_refl _⟩
    | none =>
      rcases hn x hx with e | e | e
      · exact absurd e hr
      · rw [hv] at e; cases e
      · obtain ⟨y, hy⟩ : ∃ y, y ∈ x.2.kids := by
          cases hk : x.2.kids with
          | nil => rw [hk] at e; simp at e
          | cons y l => exact ⟨y, by simp⟩
        obtain ⟨m, h1, h2⟩ := h.dn x hx y hy
        have hlt := nsub_lt h hx hy h1
        obtain ⟨kv, q1, q2⟩ := ih (y.2, m) (by show (nsub F m.path).length ≤ n; omega) h1 (fun e => by
          have := (h.root_pre h1 e).2
          simp only at this
          rw [this] at h2
          simp at h2)
        exact ⟨kv, q1, List.IsPrefix.trans ⟨y.1 :: bl m.pre, h2.symm⟩ q2⟩
theorem path_iff (h : AOK F r) (hc : ACt F C) (hn : ANrm F r) (p : Byt) : (∃ x, x ∈ F ∧ x.2.path = p) ↔ p = [] ∨ (∃ kv, kv ∈ C ∧ bl kv.1 = p) ∨ ∃ a b, a ∈ C ∧ b ∈ C ∧ a.1 ≠ b.1 ∧ p = cpre (bl a.1) (bl b.1) := by
  constructor
  · rintro ⟨x, hx, rfl⟩
    by_cases hr : x.1 = r
    · exact .inl (h.root_pre hx hr).2
    · right
      rcases hn x hx with e | e | e
      · exact absurd e hr
      · obtain ⟨v, hv⟩ := Option.isSome_iff_exists.1 e
        exact .inl ⟨(bs x.2.path, v), (hc.mem _ _).2 ⟨x, hx, (bl_bs _).symm, hv⟩, bl_bs _⟩
      · right
        match hk : x.2.kids, e with
        | y :: z :: l, _ =>
          have hs := h.srt x hx
          rw [hk] at hs
          obtain ⟨q1, _⟩ := List.pairwise_cons.1 hs
          have hlt := q1 z (by simp)
          have und : ∀ w, w ∈ x.2.kids → ∃ kv, kv ∈ C ∧ ∃ s, bl kv.1 = x.2.path ++ w.1 :: s := fun w hw => by
            obtain ⟨m, h1, h2⟩ := h.dn x hx w hw
            obtain ⟨kv, p1, s, p2⟩ := key_under h hc hn _ (w.2, m) (Nat.le_refl _) h1 (fun e => by
              have := (h.root_pre h1 e).2
              simp only at this
              rw [this] at h2
              simp at h2)
            refine ⟨kv, p1, bl m.pre ++ s, ?_⟩
            rw [← p2]
            show m.path ++ s = _
            rw [h2]
            simp
          obtain ⟨a, ha, s, hs1⟩ := und y (by rw [hk]; simp)
          obtain ⟨b, hb, t, ht1⟩ := und z (by rw [hk]; simp)
          have hne : y.1 ≠ z.1 := UInt8.ne_of_lt hlt
          refine ⟨a, b, ha, hb, fun e => ?_, ?_⟩
          · rw [e, ht1] at hs1
            have := List.append_cancel_left hs1
            simp only [List.cons.injEq] at this
            exact hne this.1.symm
          · rw [hs1, ht1, cpre_part hne]
  · rintro (rfl | ⟨kv, hkv, rfl⟩ | ⟨a, b, ha, hb, hne, rfl⟩)
    · obtain ⟨n, h1, h2, _⟩ := h.root
      exact ⟨_, h1, h2⟩
    · obtain ⟨x, hx, h1, _⟩ := (hc.mem kv.1 kv.2).1 hkv
      exact ⟨x, hx, h1⟩
    · obtain ⟨za, hza, a1, _⟩ := (hc.mem a.1 a.2).1 ha
      obtain ⟨zb, hzb, b1, _⟩ := (hc.mem b.1 b.2).1 hb
      have ha0 := cpre_l (bl a.1) (bl b.1)
      have hb0 := cpre_r (bl a.1) (bl b.1)
      have hmax : ∀ q, q <+: bl a.1 → q <+: bl b.1 → q <+: cpre (bl a.1) (bl b.1) := fun q => cpre_max
      have hab : bl a.1 ≠ bl b.1 := fun e => hne (bl_inj e)
      generalize cpre (bl a.1) (bl b.1) = p at *
      -- from the root down
      have go : ∀ (n : Nat) (x : Hd × AN), p.length - x.2.path.length ≤ n → x ∈ F → x.2.path <+: p → ∃ x, x ∈ F ∧ x.2.path = p := by
        intro n
        induction n with
        | zero =>
          intro x hl hx hp
          exact ⟨x, hx, hp.eq_of_length (by have := hp.length_le; omega)⟩
        | succ n ih =>
          intro x hl hx hp
          by_cases he : x.2.path = p
          · exact ⟨x, hx, he⟩
          have hlt : x.2.path.length < p.length := by
            have := hp.length_le
            rcases Nat.lt_or_ge x.2.path.length p.length with q | q
            · exact q
            · exact absurd (hp.eq_of_length (by omega)) he
          have step : ∀ z, z ∈ F → p <+: z.2.path → ∃ y, y ∈ x.2.kids ∧ ∃ m, (y.2, m) ∈ F ∧ m.path = x.2.path ++ y.1 :: bl m.pre ∧ m.path <+: z.2.path := fun z hz hpz => by
            rcases h.under hx hz (hp.trans hpz) with e | e
            · rw [e] at hpz
              have := hpz.length_le
              omega
            · exact e
          obtain ⟨y, hy, m, q1, q2, q3⟩ := step za hza (by rw [a1]; exact ha0)
          obtain ⟨y', hy', m', s1, s2, s3⟩ := step zb hzb (by rw [b1]; exact hb0)
          -- the two go by the same byte
          obtain ⟨u, hu⟩ := hp
          cases u with
          | nil => rw [List.append_nil] at hu; exact absurd hu he
          | cons c u =>
            have hc1 : y.1 = c := by
              have h1 : x.2.path ++ [c] <+: bl a.1 := List.IsPrefix.trans ⟨u, by rw [← hu]; simp⟩ ha0
              have h2 : x.2.path ++ [y.1] <+: bl a.1 := by rw [← a1]; exact List.IsPrefix.trans ⟨bl m.pre, by rw [q2]; simp⟩ q3
              have h3 := List.prefix_of_prefix_length_le h2 h1 (by simp)
              have h4 := (List.prefix_append_right_inj _).1 h3
              exact (List.cons_prefix_cons.1 h4).1
            have hc2 : y'.1 = c := by
              have h1 : x.2.path ++ [c] <+: bl b.1 := List.IsPrefix.trans ⟨u, by rw [← hu]; simp⟩ hb0
              have h2 : x.2.path ++ [y'.1] <+: bl b.1 := by rw [← b1]; exact List.IsPrefix.trans ⟨bl m'.pre, by rw [s2]; simp⟩ s3
              have h3 := List.prefix_of_prefix_length_le h2 h1 (by simp)
              have h4 := (List.prefix_append_right_inj _).1 h3
              exact (List.cons_prefix_cons.1 h4).1
            have hyy : y'.2 = y.2 := by
              have e1 : (c, y.2) ∈ x.2.kids := by rw [← hc1]; exact hy
              have e2 : (c, y'.2) ∈ x.2.kids := by rw [← hc2]; exact hy'
              exact ks_uniq (h.srt x hx) e2 e1
            have hmm := h.un s1 q1 hyy
            have hmm2 : m' = m := by injection hmm
            subst hmm2
            have hmp : m'.path <+: p := hmax _ (by rw [← a1]; exact q3) (by rw [← b1]; exact s3)
            refine ih (y.2, m') ?_ q1 hmp
            show p.length - m'.path.length ≤ n
            rw [q2, List.length_append, List.length_cons]
            omega
      obtain ⟨n, h1, h2, _⟩ := h.root
      exact go _ (r, n) (Nat.le_refl _) h1 (by show n.path <+: p; rw [h2]; exact List.nil_prefix)
/-- How many nodes there are hangs on the keys alone. -/
theorem nodes_len (h : AOK F r) (hc : ACt F C) (hn : ANrm F r) {S : List Byt} (hS : S.Nodup) (hm : ∀ p, p ∈ S ↔ p = [] ∨ (∃ kv, kv ∈ C ∧ bl kv.1 = p) ∨ ∃ a b, a ∈ C ∧ b ∈ C ∧ a.1 ≠ b.1 ∧ p = cpre (bl a.1) (bl b.1)) : F.length = S.length := by
  have hp : (F.map (·.2.path)).Perm S := perm_nd h.pd hS fun p => by
    rw [hm, ← path_iff h hc hn, List.mem_map]
  rw [← hp.length_eq, List.length_map]
theorem nodes_same {F' : AF} {r' : Hd} (h : AOK F r) (hc : ACt F C) (hn : ANrm F r) (h' : AOK F' r') (hc' : ACt F' C) (hn' : ANrm F' r') : F.length = F'.length := by
  have := nodes_len h hc hn h'.pd fun p => by rw [List.mem_map]; exact path_iff h' hc' hn' p
  rw [this, List.length_map]
/-- The keys of a subtree are as many as its nodes with a value. -/
theorem sub_count (h : AOK F r) (hc : ACt F C) : C.length = (F.filter fun x => x.2.val.isSome).length := by
  have hp : (C.map fun kv => bl kv.1).Perm ((F.filter fun x => x.2.val.isSome).map (·.2.path)) := by
    refine perm_nd ?_ (List.Pairwise.sublist (List.Sublist.map _ List.filter_sublist) h.pd) fun p => ?_
    · refine nodup_iff_inj ?_ fun a b ha hb e => ?_
      · exact List.Pairwise.imp (fun {a b} hab e => by rw [e, slt_irrefl] at hab; cases hab) hc.srt
      · have e1 := bl_inj e
        obtain ⟨a1, a2⟩ := a
        obtain ⟨b1, b2⟩ := b
        simp only at e1
        subst e1
        have := (cget_iff hc.srt).2 ha
        rw [(cget_iff hc.srt).2 hb] at this
        injection this with this
        rw [this]
    · rw [List.mem_map, List.mem_map]
      constructor
      · rintro ⟨kv, hkv, rfl⟩
        obtain ⟨x, hx, h1, h2⟩ := (hc.mem kv.1 kv.2).1 hkv
        exact ⟨x, List.mem_filter.2 ⟨hx, by rw [h2]; rfl⟩, h1⟩
      · rintro ⟨x, hx, rfl⟩
        obtain ⟨h1, h2⟩ := List.mem_filter.1 hx
        obtain ⟨v, hv⟩ := Option.isSome_iff_exists.1 h2
        exact ⟨(bs x.2.path, v), (hc.mem _ _).2 ⟨x, h1, (bl_bs _).symm, hv⟩, bl_bs _⟩
  have := hp.length_eq
  rwa [List.length_map, List.length_map] at this
end
end Go.Proofs.YtmhlokomlngdmaaGreat
