/- The order of texts, byte by byte; no program in sight. A B-link tree's nodes as plain data: what covers a key, a key's place, one key more or less, halves; no program in sight. A level of a B-link tree: nodes from left to right; what it has, and which node covers a key; no program in sight. A B-link tree as plain data: its levels from the lowest up; splitting a node; no program in sight. A B-link tree as plain data: what a split, a new root, a key more or less make of its levels; how many nodes and levels it has; no program in sight. -/
import Derived.Lib.Bytealg
namespace Go.Proofs.Ytlhobbfncjjeaaa
open Go.Lib
/-- Three ways: -1, 0, 1. -/
theorem cb_range : ∀ a b : List UInt8, compareBytes a b = -1 ∨ compareBytes a b = 0 ∨ compareBytes a b = 1
  | [], [] => .inr (.inl rfl)
  | [], _ :: _ => .inl rfl
  | _ :: _, [] => .inr (.inr rfl)
  | a :: as, b :: bs => by
    unfold compareBytes
    split
    · exact .inl rfl
    · split
      · exact .inr (.inr rfl)
      · exact cb_range as bs
theorem cb_swap : ∀ a b : List UInt8, compareBytes b a = - compareBytes a b
  | [], [] => rfl
  | [], _ :: _ => rfl
  | _ :: _, [] => rfl
  | a :: as, b :: bs => by
    unfold compareBytes
    by_cases h1 : a < b
    · have h2 : ¬ b < a := fun h => UInt8.lt_irrefl a (UInt8.lt_trans h1 h)
      simp [h1, h2]
    · by_cases h2 : b < a
      · simp [h1, h2]
      · simp only [h1, h2, if_false]
        exact cb_swap as bs
theorem cb_eq : ∀ a b : List UInt8, compareBytes a b = 0 ↔ a = b
  | [], [] => by simp [compareBytes]
  | [], _ :: _ => by simp [compareBytes]
  | _ :: _, [] => by simp [compareBytes]
  | a :: as, b :: bs => by
    unfold compareBytes
    by_cases h1 : a < b
    · have : a ≠ b := fun h => UInt8.lt_irrefl a (by rw [← h] at h1; exact h1)
      simp [h1, this]
    · by_cases h2 : b < a
      · have : a ≠ b := fun h => UInt8.lt_irrefl a (by rw [← h] at h2; exact h2)
        simp [h1, h2, this]
      · have : a = b := UInt8.le_antisymm (UInt8.not_lt.1 h2) (UInt8.not_lt.1 h1)
        rw [if_neg h1, if_neg h2, this]
        simp only [List.cons.injEq, true_and]
        exact cb_eq as bs
theorem cb_trans : ∀ a b c : List UInt8, compareBytes a b = -1 → compareBytes b c = -1 → compareBytes a c = -1
  | [], [], _, h, _ => by simp [compareBytes] at h
  | [], _ :: _, [], _, h => by simp [compareBytes] at h
  | [], _ :: _, _ :: _, _, _ => rfl
  | _ :: _, [], _, h, _ => by simp [compareBytes] at h
  | _ :: _, _ :: _, [], _, h => by simp [compareBytes] at h
  | a :: as, b :: bs, c :: cs, h, h' => by
    unfold compareBytes at h h' ⊢
    by_cases h1 : a < b
    · by_cases h2 : b < c
      · rw [if_pos (UInt8.lt_trans h1 h2)]
      · rw [if_neg h2] at h'
        by_cases h3 : c < b
        · rw [if_pos h3] at h'; simp at h'
        · have : b = c := UInt8.le_antisymm (UInt8.not_lt.1 h3) (UInt8.not_lt.1 h2)
          rw [← this, if_pos h1]
    · rw [if_neg h1] at h
      by_cases h2 : b < a
      · rw [if_pos h2] at h; simp at h
      · have e : a = b := UInt8.le_antisymm (UInt8.not_lt.1 h2) (UInt8.not_lt.1 h1)
        subst e
        rw [if_neg h2] at h
        by_cases h3 : a < c
        · rw [if_pos h3]
        · rw [if_neg h3] at h' ⊢
          by_cases h4 : c < a
          · rw [if_pos h4] at h'; simp at h'
          · rw [if_neg h4] at h' ⊢
            exact cb_trans as bs cs h h'
abbrev Str := ByteArray
def scmp (a b : Str) : Int := compareBytes a.data.toList b.data.toList
/-- Less. -/
def slt (a b : Str) : Bool := decide (scmp a b < 0)
theorem scmp_range (a b : Str) : scmp a b = -1 ∨ scmp a b = 0 ∨ scmp a b = 1 := cb_range _ _
theorem scmp_swap (a b : Str) : scmp b a = - scmp a b := cb_swap _ _
theorem str_ext {a b : Str} (h : a.data.toList = b.data.toList) : a = b := by
  obtain ⟨⟨x⟩⟩ := a
  obtain ⟨⟨y⟩⟩ := b
  simp at h
  rw [h]
theorem scmp_eq (a b : Str) : scmp a b = 0 ↔ a = b :=
  ⟨fun h => str_ext ((cb_eq _ _).1 h), fun h => (cb_eq _ _).2 (by rw [h])⟩
theorem slt_irrefl (a : Str) : slt a a = false := by
  have := (scmp_eq a a).2 rfl
  simp [slt, this]
theorem slt_trans {a b c : Str} (h : slt a b = true) (h' : slt b c = true) : slt a c = true := by
  simp only [slt, decide_eq_true_eq] at *
  have h1 : scmp a b = -1 := by rcases scmp_range a b with e | e | e <;> omega
  have h2 : scmp b c = -1 := by rcases scmp_range b c with e | e | e <;> omega
  have := cb_trans _ _ _ h1 h2
  unfold scmp
  omega
theorem slt_asymm {a b : Str} (h : slt a b = true) : slt b a = false := by
  simp only [slt, decide_eq_true_eq, decide_eq_false_iff_not] at *
  rw [scmp_swap]
  omega
theorem slt_eq {a b : Str} (h : slt a b = false) (h' : slt b a = false) : a = b := by
  simp only [slt, decide_eq_false_iff_not] at *
  rw [scmp_swap] at h'
  exact (scmp_eq a b).1 (by omega)
/-- Not above. -/
def sle (a b : Str) : Bool := !slt b a
theorem sle_iff {a b : Str} : sle a b = true ↔ slt b a = false := by simp [sle]
theorem sle_refl (a : Str) : sle a a = true := by simp [sle, slt_irrefl]
theorem slt_sle {a b : Str} (h : slt a b = true) : sle a b = true := by simp [sle, slt_asymm h]
theorem sle_slt {a b c : Str} (h : sle a b = true) (h' : slt b c = true) : slt a c = true := by
  rw [sle_iff] at h
  cases h1 : slt a b
  · rw [slt_eq h1 h]; exact h'
  · exact slt_trans h1 h'
theorem slt_sle' {a b c : Str} (h : slt a b = true) (h' : sle b c = true) : slt a c = true := by
  rw [sle_iff] at h'
  cases h1 : slt b c
  · rw [← slt_eq h1 h']; exact h
  · exact slt_trans h h1
theorem sle_trans {a b c : Str} (h : sle a b = true) (h' : sle b c = true) : sle a c = true := by
  cases h1 : slt a b
  · rw [sle_iff] at h
    rw [slt_eq h1 h]; exact h'
  · exact slt_sle (slt_sle' h1 h')
theorem sle_or {a b : Str} (h : sle a b = true) : a = b ∨ slt a b = true := by
  rw [sle_iff] at h
  cases h1 : slt a b
  · exact .inl (slt_eq h1 h)
  · exact .inr rfl
theorem slt_ne {a b : Str} (h : slt a b = true) : a ≠ b := fun e => by
  rw [e, slt_irrefl] at h; cases h
abbrev s0 : Str := ByteArray.empty
theorem sle_s0 (a : Str) : sle s0 a = true := by
  rw [sle_iff]
  refine decide_eq_false ?_
  show ¬ compareBytes a.data.toList [] < 0
  cases a.data.toList <;> simp [compareBytes]
theorem slt_s0 (a : Str) : slt a s0 = false := sle_iff.1 (sle_s0 a)
end Go.Proofs.Ytlhobbfncjjeaaa
namespace Go.Proofs.Ytlhobbfncjjeaaa
abbrev Hd := Int × Int
structure BN where
  leaf : Bool
  keys : List Str
  vals : List Str
  kids : List Hd
  high : Str
  bnd : Bool
  next : Hd
abbrev Lev := List (Hd × BN)
def BN.covers (n : BN) (k : Str) : Bool := !n.bnd || slt k n.high
def BN.hi (n : BN) : Option Str := if n.bnd then some n.high else none
def cut (k : Str) (l : List Str) : Nat := (l.takeWhile fun x => slt x k).length
def cutE (k : Str) (l : List Str) : Nat := (l.takeWhile fun x => sle x k).length
/-- Texts that rise. -/
def Rises (l : List Str) : Prop := l.Pairwise fun a b => slt a b = true
theorem cut_le (k : Str) (l : List Str) : cut k l ≤ l.length := (List.takeWhile_sublist _).length_le
theorem cutE_le (k : Str) (l : List Str) : cutE k l ≤ l.length := (List.takeWhile_sublist _).length_le
theorem cut_cons (k x : Str) (l : List Str) : cut k (x :: l) = if slt x k then cut k l + 1 else 0 := by
  unfold cut
  rw [List.takeWhile_cons]
  split <;> simp
theorem cutE_cons (k x : Str) (l : List Str) : cutE k (x :: l) = if sle x k then cutE k l + 1 else 0 := by
  unfold cutE
  rw [List.takeWhile_cons]
  split <;> simp
theorem cut_nil (k : Str) : cut k [] = 0 := rfl
theorem cutE_nil (k : Str) : cutE k [] = 0 := rfl
/-- Below its place all keys are less. -/
theorem cut_lt {k : Str} : ∀ {l : List Str} {i : Nat} {x : Str}, i < cut k l → l[i]? = some x → slt x k = true
  | [], i, x, h, _ => by simp [cut] at h
  | y :: l, i, x, h, hx => by
    rw [cut_cons] at h
    by_cases hy : slt y k = true
    · rw [if_pos hy] at h
      cases i with
      | zero => simp at hx; rw [← hx]; exact hy
      | succ i => exact cut_lt (l := l) (i := i) (by omega) (by simpa using hx)
    · rw [if_neg hy] at h; omega
theorem cut_at {k : Str} : ∀ {l : List Str} {x : Str}, l[cut k l]? = some x → slt x k = false
  | [], x, h => by simp at h
  | y :: l, x, h => by
    rw [cut_cons] at h
    by_cases hy : slt y k = true
    · rw [if_pos hy] at h
      exact cut_at (l := l) (by simpa using h)
    · rw [if_neg hy] at h
      simp at h
      rw [← h]; simpa using hy
/-- From its place on no key is less. -/
theorem cut_ge {k : Str} {l : List Str} (hr : Rises l) {i : Nat} {x : Str} (hi : cut k l ≤ i) (hx : l[i]? = some x) : slt x k = false := by
  obtain ⟨hil, rfl⟩ := List.getElem?_eq_some_iff.1 hx
  have hc : cut k l < l.length := by omega
  have h0 := cut_at (k := k) (List.getElem?_eq_getElem hc)
  rcases Nat.lt_or_ge (cut k l) i with h1 | h1
  · have := (List.pairwise_iff_getElem.1 hr) (cut k l) i hc hil h1
    exact sle_iff.1 (sle_trans (sle_iff.2 h0) (slt_sle this))
  · have : i = cut k l := by omega
    subst this
    exact h0
/-- Is it one of them? -/
def hasK (k : Str) (l : List Str) : Bool := match l[cut k l]? with
  | some x => decide (x = k)
  | none => false
theorem hasK_iff {k : Str} {l : List Str} : hasK k l = true ↔ l[cut k l]? = some k := by
  unfold hasK
  cases h : l[cut k l]? with
  | none => simp
  | some x => simp
theorem hasK_mem {k : Str} {l : List Str} (hr : Rises l) : hasK k l = true ↔ k ∈ l := by
  rw [hasK_iff]
  refine ⟨fun h => List.mem_of_getElem? h, fun h => ?_⟩
  obtain ⟨i, hi⟩ := List.mem_iff_getElem?.1 h
  have h1 : ¬ i < cut k l := fun h1 => by have := cut_lt h1 hi; rw [slt_irrefl] at this; cases this
  have hil := (List.getElem?_eq_some_iff.1 hi).1
  have h2 : cut k l < l.length := by omega
  rcases Nat.lt_or_ge (cut k l) i with h3 | h3
  · have h4 := (List.pairwise_iff_getElem.1 hr) (cut k l) i h2 hil h3
    have h5 := cut_at (k := k) (List.getElem?_eq_getElem h2)
    rw [(List.getElem?_eq_some_iff.1 hi).2, h5] at h4
    cases h4
  · have : i = cut k l := by omega
    rw [← this]; exact hi
theorem cutE_eq {k : Str} : ∀ {l : List Str}, Rises l → cutE k l = cut k l + (if hasK k l then 1 else 0)
  | [], _ => rfl
  | y :: l, hr => by
    obtain ⟨h1, h2⟩ := List.pairwise_cons.1 hr
    rw [cutE_cons, cut_cons]
    unfold hasK
    rw [cut_cons]
    by_cases hy : slt y k = true
    · rw [if_pos hy, if_pos (slt_sle hy), cutE_eq h2]
      unfold hasK
      simp only [List.getElem?_cons_succ]
      omega
    · rw [if_neg hy]
      simp only [List.getElem?_cons_zero]
      by_cases he : sle y k = true
      · rw [if_pos he]
        rcases sle_or he with h3 | h3
        · subst h3
          have : cutE y l = 0 := by
            cases l with
            | nil => rfl
            | cons z l =>
              rw [cutE_cons, if_neg]
              have := h1 z (by simp)
              simp [sle, this]
          simp [this]
        · exact absurd h3 hy
      · rw [if_neg he]
        have : ¬ y = k := by
          intro h; subst h; exact he (sle_refl _)
        simp [this]
theorem Rises.nil : Rises [] := List.Pairwise.nil
theorem mem_insert {α : Type} : ∀ {l : List α} {i : Nat} {a x : α}, x ∈ l.insertIdx i a → x = a ∨ x ∈ l
  | l, 0, a, x, h => by rw [List.insertIdx_zero] at h; exact List.mem_cons.1 h
  | [], i + 1, a, x, h => by rw [List.insertIdx_succ_nil] at h; cases h
  | y :: l, i + 1, a, x, h => by
    rw [List.insertIdx_succ_cons] at h
    rcases List.mem_cons.1 h with rfl | h
    · exact .inr (by simp)
    · rcases mem_insert h with h | h
      · exact .inl h
      · exact .inr (by simp [h])
/-- A new key at its place. -/
theorem rises_insert {k : Str} : ∀ {l : List Str}, Rises l → hasK k l = false → Rises (l.insertIdx (cut k l) k)
  | [], _, _ => by simp [cut, Rises]
  | y :: l, hr, hn => by
    obtain ⟨h1, h2⟩ := List.pairwise_cons.1 hr
    unfold hasK at hn
    rw [cut_cons] at hn ⊢
    by_cases hy : slt y k = true
    · rw [if_pos hy] at hn ⊢
      rw [List.insertIdx_succ_cons]
      simp only [List.getElem?_cons_succ] at hn
      refine List.pairwise_cons.2 ⟨fun x hx => ?_, rises_insert h2 hn⟩
      rcases mem_insert hx with rfl | hx
      · exact hy
      · exact h1 x hx
    · rw [if_neg hy] at hn ⊢
      simp only [List.getElem?_cons_zero] at hn
      rw [List.insertIdx_zero]
      have hne : y ≠ k := by simpa using hn
      have hky : slt k y = true := by
        cases h : slt k y
        · exact absurd (slt_eq (by simpa using hy) h) hne
        · rfl
      refine List.pairwise_cons.2 ⟨fun x hx => ?_, hr⟩
      rcases List.mem_cons.1 hx with rfl | hx
      · exact hky
      · exact slt_trans hky (h1 x hx)
theorem rises_erase {l : List Str} (h : Rises l) (i : Nat) : Rises (l.eraseIdx i) := h.sublist (List.eraseIdx_sublist _ _)
theorem rises_take {l : List Str} (h : Rises l) (i : Nat) : Rises (l.take i) := h.sublist (List.take_sublist _ _)
theorem rises_drop {l : List Str} (h : Rises l) (i : Nat) : Rises (l.drop i) := h.sublist (List.drop_sublist _ _)
/-- What a node must be. -/
structure NodeOK (lo : Str) (n : BN) : Prop where
  rise : Rises n.keys
  low : ∀ k, k ∈ n.keys → sle lo k = true
  cov : ∀ k, k ∈ n.keys → n.covers k = true
  hi0 : n.bnd = false → n.high = s0
  lf : n.leaf = true → n.vals.length = n.keys.length ∧ n.kids = []
  inn : n.leaf = false → n.vals = [] ∧ n.kids.length = n.keys.length + 1
  room : n.bnd = true → slt lo n.high = true
def BN.put (n : BN) (k v : Str) : BN := if hasK k n.keys then { n with vals := n.vals.set (cut k n.keys) v } else { n with keys := n.keys.insertIdx (cut k n.keys) k, vals := n.vals.insertIdx (cut k n.keys) v }
def BN.del (n : BN) (k : Str) : BN := if hasK k n.keys then { n with keys := n.keys.eraseIdx (cut k n.keys), vals := n.vals.eraseIdx (cut k n.keys) } else n
def BN.add (n : BN) (k : Str) (h : Hd) : BN := { n with keys := n.keys.insertIdx (cut k n.keys) k, kids := n.kids.insertIdx (cut k n.keys + 1) h }
def BN.old (n : BN) (k : Str) : Str := if hasK k n.keys then n.vals.getD (cut k n.keys) s0 else s0
def BN.mid (n : BN) : Nat := n.keys.length / 2
def BN.sep (n : BN) : Str := n.keys.getD n.mid s0
def BN.left (n : BN) (nx : Hd) : BN := { n with keys := n.keys.take n.mid, vals := if n.leaf then n.vals.take n.mid else n.vals, kids := if n.leaf then n.kids else n.kids.take (n.mid + 1), high := n.sep, bnd := true, next := nx }
def BN.rightHalf (n : BN) : BN := if n.leaf then { n with keys := n.keys.drop n.mid, vals := n.vals.drop n.mid } else { n with keys := n.keys.drop (n.mid + 1), kids := n.kids.drop (n.mid + 1) }
theorem NodeOK.put {lo : Str} {n : BN} (h : NodeOK lo n) (hl : n.leaf = true) {k : Str} (v : Str) (hk : sle lo k = true) (hc : n.covers k = true) : NodeOK lo (n.put k v) := by
  unfold BN.put
  cases hh : hasK k n.keys
  · simp only [Bool.false_eq_true, if_false]
    have hv := (h.lf hl).1
    have := cut_le k n.keys
    refine ⟨rises_insert h.rise hh, fun x hx => ?_, fun x hx => ?_, h.hi0, fun _ => ⟨?_, (h.lf hl).2⟩, (fun e => by rw [hl] at e; cases e), h.room⟩
    · rcases mem_insert hx with rfl | hx
      · exact hk
      · exact h.low x hx
    · rcases mem_insert hx with rfl | hx
      · exact hc
      · exact h.cov x hx
    · show (n.vals.insertIdx _ v).length = (n.keys.insertIdx _ k).length
      rw [List.length_insertIdx_of_le_length (by omega), List.length_insertIdx_of_le_length this, hv]
  · simp only [if_true]
    exact ⟨h.rise, h.low, h.cov, h.hi0, fun _ => ⟨by simpa using (h.lf hl).1, (h.lf hl).2⟩, (fun e => by rw [hl] at e; cases e), h.room⟩
theorem NodeOK.del {lo : Str} {n : BN} (h : NodeOK lo n) (hl : n.leaf = true) (k : Str) : NodeOK lo (n.del k) := by
  unfold BN.del
  cases hh : hasK k n.keys
  · simp only [Bool.false_eq_true, if_false]; exact h
  · simp only [if_true]
    have hlt : cut k n.keys < n.keys.length := (List.getElem?_eq_some_iff.1 (hasK_iff.1 hh)).1
    refine ⟨rises_erase h.rise _, fun x hx => h.low x (List.mem_of_mem_eraseIdx hx), fun x hx => h.cov x (List.mem_of_mem_eraseIdx hx), h.hi0, fun _ => ⟨?_, (h.lf hl).2⟩, (fun e => by rw [hl] at e; cases e), h.room⟩
    show (n.vals.eraseIdx _).length = (n.keys.eraseIdx _).length
    rw [List.length_eraseIdx_of_lt hlt, List.length_eraseIdx_of_lt (by rw [(h.lf hl).1]; exact hlt), (h.lf hl).1]
theorem NodeOK.add {lo : Str} {n : BN} (h : NodeOK lo n) (hl : n.leaf = false) {k : Str} (nx : Hd) (hh : hasK k n.keys = false) (hk : sle lo k = true) (hc : n.covers k = true) : NodeOK lo (n.add k nx) := by
  have := cut_le k n.keys
  have hkd := (h.inn hl).2
  refine ⟨rises_insert h.rise hh, fun x hx => ?_, fun x hx => ?_, h.hi0, (fun e => by rw [show (n.add k nx).leaf = n.leaf from rfl, hl] at e; cases e), fun _ => ⟨(h.inn hl).1, ?_⟩, h.room⟩
  · rcases mem_insert hx with rfl | hx
    · exact hk
    · exact h.low x hx
  · rcases mem_insert hx with rfl | hx
    · exact hc
    · exact h.cov x hx
  · show (n.kids.insertIdx _ nx).length = (n.keys.insertIdx _ k).length + 1
    rw [List.length_insertIdx_of_le_length (by omega), List.length_insertIdx_of_le_length this, hkd]
/-- A node that can be split: its parting key. -/
theorem sep_at {n : BN} (h2 : 2 ≤ n.keys.length) : n.keys[n.mid]? = some n.sep := by
  have : n.mid < n.keys.length := by unfold BN.mid; omega
  unfold BN.sep
  rw [List.getD_eq_getElem?_getD, List.getElem?_eq_getElem this]
  rfl
theorem sep_low {lo : Str} {n : BN} (h : NodeOK lo n) (h2 : 2 ≤ n.keys.length) : slt lo n.sep = true := by
  have h1 := sep_at h2
  obtain ⟨hm, he⟩ := List.getElem?_eq_some_iff.1 h1
  have hm0 : 0 < n.mid := by unfold BN.mid; omega
  have h3 := (List.pairwise_iff_getElem.1 h.rise) 0 n.mid (by omega) hm hm0
  rw [he] at h3
  exact sle_slt (h.low _ (List.getElem_mem _)) h3
theorem sep_cov {lo : Str} {n : BN} (h : NodeOK lo n) (h2 : 2 ≤ n.keys.length) : n.covers n.sep = true := h.cov _ (List.mem_of_getElem? (sep_at h2))
theorem rise_lt {l : List Str} (h : Rises l) {i j : Nat} {x y : Str} (hij : i < j) (hx : l[i]? = some x) (hy : l[j]? = some y) : slt x y = true := by
  obtain ⟨h1, rfl⟩ := List.getElem?_eq_some_iff.1 hx
  obtain ⟨h2, rfl⟩ := List.getElem?_eq_some_iff.1 hy
  exact (List.pairwise_iff_getElem.1 h) i j h1 h2 hij
theorem NodeOK.left {lo : Str} {n : BN} (h : NodeOK lo n) (h2 : 2 ≤ n.keys.length) (nx : Hd) : NodeOK lo (n.left nx) := by
  have hm : n.mid < n.keys.length := by unfold BN.mid; omega
  refine ⟨rises_take h.rise _, fun k hk => h.low k (List.mem_of_mem_take hk), fun k hk => ?_, fun e => (by cases e), fun e => ?_, fun e => ?_, fun _ => sep_low h h2⟩
  · obtain ⟨i, hi⟩ := List.mem_iff_getElem?.1 hk
    have hi' : i < n.mid := by
      have := (List.getElem?_eq_some_iff.1 hi).1
      simp only [BN.left, List.length_take] at this
      omega
    have hx : n.keys[i]? = some k := by simpa [BN.left, List.getElem?_take, hi'] using hi
    show (!true || slt k n.sep) = true
    simpa using rise_lt h.rise hi' hx (sep_at h2)
  · have hl : n.leaf = true := e
    show (if n.leaf then n.vals.take n.mid else n.vals).length = (n.keys.take n.mid).length ∧ (if n.leaf then n.kids else n.kids.take (n.mid + 1)) = []
    rw [hl]
    simp [(h.lf hl).1, (h.lf hl).2]
  · have hl : n.leaf = false := e
    show (if n.leaf then n.vals.take n.mid else n.vals) = [] ∧ (if n.leaf then n.kids else n.kids.take (n.mid + 1)).length = (n.keys.take n.mid).length + 1
    rw [hl]
    simp only [Bool.false_eq_true, if_false, List.length_take]
    have := (h.inn hl).2
    exact ⟨(h.inn hl).1, by omega⟩
theorem NodeOK.rightHalf {lo : Str} {n : BN} (h : NodeOK lo n) (h2 : 2 ≤ n.keys.length) : NodeOK n.sep n.rightHalf := by
  have hm : n.mid < n.keys.length := by unfold BN.mid; omega
  have hge : ∀ i x, n.mid ≤ i → n.keys[i]? = some x → sle n.sep x = true := fun i x hi hx => by
    rcases Nat.lt_or_ge n.mid i with h1 | h1
    · exact slt_sle (rise_lt h.rise h1 (sep_at h2) hx)
    · have : i = n.mid := by omega
      subst this
      rw [sep_at h2] at hx
      injection hx with hx
      rw [hx]; exact sle_refl _
  have hroom : n.bnd = true → slt n.sep n.high = true := fun hb => by
    have := sep_cov h h2
    simpa [BN.covers, hb] using this
  unfold BN.rightHalf
  cases hl : n.leaf
  · simp only [Bool.false_eq_true, if_false]
    refine ⟨rises_drop h.rise _, fun k hk => ?_, fun k hk => h.cov k (List.mem_of_mem_drop hk), h.hi0, (fun e => by cases e), fun _ => ⟨(h.inn hl).1, ?_⟩, hroom⟩
    · obtain ⟨i, hi⟩ := List.mem_iff_getElem?.1 hk
      simp only [List.getElem?_drop] at hi
      exact hge _ _ (by omega) hi
    · simp only [List.length_drop]
      have := (h.inn hl).2
      omega
  · simp only [if_true]
    refine ⟨rises_drop h.rise _, fun k hk => ?_, fun k hk => h.cov k (List.mem_of_mem_drop hk), h.hi0, fun _ => ⟨?_, (h.lf hl).2⟩, (fun e => by cases e), hroom⟩
    · obtain ⟨i, hi⟩ := List.mem_iff_getElem?.1 hk
      simp only [List.getElem?_drop] at hi
      exact hge _ _ (by omega) hi
    · simp only [List.length_drop]
      rw [(h.lf hl).1]
end Go.Proofs.Ytlhobbfncjjeaaa
namespace Go.Proofs.Ytlhobbfncjjeaaa
abbrev Cont := List (Str × Str)
def first (A : Lev) (nxt : Hd) : Hd := match A with
  | [] => nxt
  | x :: _ => x.1
/-- Nodes that part the keys from lo to hi. -/
def Seg : Str → Lev → Hd → Option Str → Prop
  | lo, [], _, hi => hi = some lo
  | lo, (_, n) :: A, nxt, hi => NodeOK lo n ∧ n.next = first A nxt ∧ (if n.bnd then Seg n.high A nxt hi else A = [] ∧ hi = none)
def atK (R : Lev) (k : Str) : Option (Hd × BN) := R.find? fun x => x.2.covers k
theorem first_append (A : Lev) (x : Hd × BN) (B : Lev) (nxt : Hd) : first (A ++ x :: B) nxt = first A x.1 := by cases A <;> rfl
theorem seg_append : ∀ {A : Lev} {lo : Str} {x : Hd × BN} {B : Lev} {nxt : Hd} {hi : Option Str}, Seg lo (A ++ x :: B) nxt hi ↔ ∃ m, Seg lo A x.1 (some m) ∧ Seg m (x :: B) nxt hi
  | [], lo, x, B, nxt, hi => ⟨fun h => ⟨lo, rfl, h⟩, fun ⟨m, h1, h2⟩ => by simp only [Seg, Option.some.injEq] at h1; subst h1; exact h2⟩
  | (h0, n) :: A, lo, x, B, nxt, hi => by
    simp only [List.cons_append, Seg, first_append]
    by_cases hb : n.bnd = true
    · simp only [hb, if_true]
      rw [seg_append]
      exact ⟨fun ⟨a, b, m, c, d⟩ => ⟨m, ⟨a, b, c⟩, d⟩, fun ⟨m, ⟨a, b, c⟩, d⟩ => ⟨a, b, m, c, d⟩⟩
    · simp only [hb]
      refine ⟨fun ⟨_, _, h, _⟩ => by simp at h, fun ⟨m, ⟨_, _, _, h⟩, _⟩ => by cases h⟩
theorem seg_ok : ∀ {R : Lev} {lo : Str} {nxt : Hd} {hi : Option Str}, Seg lo R nxt hi → ∀ x, x ∈ R → ∃ l, sle lo l = true ∧ NodeOK l x.2
  | [], _, _, _, _, x, hx => by cases hx
  | (h0, n) :: A, lo, nxt, hi, ⟨a, _, c⟩, x, hx => by
    rcases List.mem_cons.1 hx with rfl | hx
    · exact ⟨lo, sle_refl _, a⟩
    · by_cases hb : n.bnd = true
      · rw [if_pos hb] at c
        obtain ⟨l, h1, h2⟩ := seg_ok c x hx
        exact ⟨l, sle_trans (slt_sle (a.room hb)) h1, h2⟩
      · rw [if_neg hb] at c
        rw [c.1] at hx; cases hx
theorem seg_low {R : Lev} {lo : Str} {nxt : Hd} {hi : Option Str} (h : Seg lo R nxt hi) {x : Hd × BN} (hx : x ∈ R) {k : Str} (hk : k ∈ x.2.keys) : sle lo k = true := by
  obtain ⟨l, h1, h2⟩ := seg_ok h x hx
  exact sle_trans h1 (h2.low k hk)
/-- The ends of nodes that do not reach a key. -/
theorem seg_his : ∀ {A : Lev} {lo m : Str} {nxt : Hd}, Seg lo A nxt (some m) → sle lo m = true ∧ ∀ y, y ∈ A → ∃ x, y.2.hi = some x ∧ sle x m = true
  | [], lo, m, _, h => by
    simp only [Seg, Option.some.injEq] at h
    subst h
    exact ⟨sle_refl _, fun y hy => by cases hy⟩
  | (h0, n) :: A, lo, m, nxt, ⟨a, _, c⟩ => by
    by_cases hb : n.bnd = true
    · rw [if_pos hb] at c
      obtain ⟨h1, h2⟩ := seg_his c
      refine ⟨sle_trans (slt_sle (a.room hb)) h1, fun y hy => ?_⟩
      rcases List.mem_cons.1 hy with rfl | hy
      · exact ⟨n.high, by simp [BN.hi, hb], h1⟩
      · exact h2 y hy
    · rw [if_neg hb] at c
      cases c.2
theorem seg_last : ∀ {A : Lev} {lo m : Str} {nxt : Hd}, Seg lo A nxt (some m) → (A = [] ∧ m = lo) ∨ ∃ A0 y, A = A0 ++ [y] ∧ y.2.hi = some m ∧ y.2.next = nxt
  | [], lo, m, _, h => by
    simp only [Seg, Option.some.injEq] at h
    exact .inl ⟨rfl, h⟩
  | (h0, n) :: A, lo, m, nxt, ⟨a, b, c⟩ => by
    by_cases hb : n.bnd = true
    · rw [if_pos hb] at c
      rcases seg_last c with ⟨rfl, rfl⟩ | ⟨A0, y, rfl, h1, h2⟩
      · exact .inr ⟨[], (h0, n), rfl, by simp [BN.hi, hb], b⟩
      · exact .inr ⟨(h0, n) :: A0, y, rfl, h1, h2⟩
    · rw [if_neg hb] at c
      cases c.2
theorem covers_hi {n : BN} {k : Str} : n.covers k = (match n.hi with | none => true | some x => slt k x) := by
  unfold BN.covers BN.hi
  cases n.bnd <;> simp
/-- Nodes that do not reach a key end at it or below. -/
theorem seg_reach {A : Lev} {lo m k : Str} {nxt : Hd} (h : Seg lo A nxt (some m)) (hn : ∀ y, y ∈ A → y.2.covers k = false) (hk : sle lo k = true) : sle m k = true := by
  rcases seg_last h with ⟨_, rfl⟩ | ⟨A0, y, rfl, h1, _⟩
  · exact hk
  · have := hn y (by simp)
    rw [covers_hi, h1] at this
    exact sle_iff.2 this
theorem seg_find {R : Lev} {lo k : Str} {nxt : Hd} : Seg lo R nxt none → ∃ x, atK R k = some x := by
  induction R generalizing lo with
  | nil => intro h; simp [Seg] at h
  | cons x A ih =>
    obtain ⟨h0, n⟩ := x
    rintro ⟨a, _, c⟩
    unfold atK
    rw [List.find?_cons]
    by_cases hc : n.covers k = true
    · exact ⟨(h0, n), by simp [hc]⟩
    · have hb : n.bnd = true := by
        cases hb : n.bnd
        · exact absurd (by simp [BN.covers, hb]) hc
        · rfl
      rw [if_pos hb] at c
      simp only [hc]
      exact ih c
theorem atK_split {R : Lev} {k : Str} {x : Hd × BN} (h : atK R k = some x) : ∃ A B, R = A ++ x :: B ∧ x.2.covers k = true ∧ ∀ y, y ∈ A → y.2.covers k = false := by
  obtain ⟨h1, A, B, h2, h3⟩ := List.find?_eq_some_iff_append.1 h
  exact ⟨A, B, h2, h1, fun y hy => by simpa using h3 y hy⟩
theorem atK_mk {A B : Lev} {k : Str} {x : Hd × BN} (hx : x.2.covers k = true) (hA : ∀ y, y ∈ A → y.2.covers k = false) : atK (A ++ x :: B) k = some x :=
  List.find?_eq_some_iff_append.2 ⟨hx, A, B, rfl, fun y hy => by simpa using hA y hy⟩
/-- Two ways of cutting a list at the first thing of a kind. -/
theorem first_uniq {α : Type} {p : α → Bool} : ∀ {P Q P' Q' : List α} {a b : α}, P ++ a :: P' = Q ++ b :: Q' → (∀ x, x ∈ P → p x = false) → (∀ x, x ∈ Q → p x = false) → p a = true → p b = true → P = Q ∧ a = b ∧ P' = Q'
  | [], [], P', Q', a, b, h, _, _, _, _ => by simp at h; exact ⟨rfl, h.1, h.2⟩
  | [], q :: Q, P', Q', a, b, h, _, h2, h3, _ => by
    simp at h
    have := h2 q (by simp)
    rw [← h.1, h3] at this; cases this
  | q :: P, [], P', Q', a, b, h, h1, _, _, h4 => by
    simp at h
    have := h1 q (by simp)
    rw [h.1, h4] at this; cases this
  | q :: P, r :: Q, P', Q', a, b, h, h1, h2, h3, h4 => by
    simp only [List.cons_append, List.cons.injEq] at h
    obtain ⟨e1, e2, e3⟩ := first_uniq h.2 (fun x hx => h1 x (by simp [hx])) (fun x hx => h2 x (by simp [hx])) h3 h4
    exact ⟨by rw [h.1, e1], e2, e3⟩
/-! ### What a level of leaves has -/
def BN.pairs (n : BN) : Cont := n.keys.zip n.vals
def cont (R : Lev) : Cont := R.flatMap fun x => x.2.pairs
def CSort (C : Cont) : Prop := C.Pairwise fun a b => slt a.1 b.1 = true
def cget (C : Cont) (k : Str) : Option Str := (C.find? fun p => decide (p.1 = k)).map (·.2)
def cput (C : Cont) (k v : Str) : Cont := (C.filter fun p => slt p.1 k) ++ (k, v) :: C.filter fun p => slt k p.1
def cdel (C : Cont) (k : Str) : Cont := C.filter fun p => !decide (p.1 = k)
def cnext (C : Cont) (k : Str) (after : Bool) : Option (Str × Str) := C.find? fun p => if after then slt k p.1 else sle k p.1
theorem zip_mem {K V : List Str} {p : Str × Str} (h : p ∈ K.zip V) : p.1 ∈ K := (List.of_mem_zip h).1
theorem pairs_sort {lo : Str} {n : BN} (h : NodeOK lo n) : CSort n.pairs := by
  have : ∀ (K V : List Str), Rises K → CSort (K.zip V) := by
    intro K
    induction K with
    | nil => intro V _; simp [CSort]
    | cons y K ih =>
      intro V hr
      cases V with
      | nil => simp [CSort]
      | cons v V =>
        obtain ⟨h1, h2⟩ := List.pairwise_cons.1 hr
        exact List.pairwise_cons.2 ⟨fun p hp => h1 _ (zip_mem hp), ih V h2⟩
  exact this _ _ h.rise
theorem cont_mem {R : Lev} {p : Str × Str} (h : p ∈ cont R) : ∃ x, x ∈ R ∧ p.1 ∈ x.2.keys := by
  obtain ⟨x, hx, hp⟩ := List.mem_flatMap.1 h
  exact ⟨x, hx, zip_mem hp⟩
theorem cont_sort : ∀ {R : Lev} {lo : Str} {nxt : Hd} {hi : Option Str}, Seg lo R nxt hi → CSort (cont R)
  | [], _, _, _, _ => List.Pairwise.nil
  | (h0, n) :: A, lo, nxt, hi, ⟨a, _, c⟩ => by
    show CSort (n.pairs ++ cont A)
    by_cases hb : n.bnd = true
    · rw [if_pos hb] at c
      refine List.pairwise_append.2 ⟨pairs_sort a, cont_sort c, fun p hp q hq => ?_⟩
      obtain ⟨x, hx, hk⟩ := cont_mem hq
      have h1 := seg_low c hx hk
      have h2 := a.cov _ (zip_mem hp)
      simp only [BN.covers, hb, Bool.not_true, Bool.false_or] at h2
      exact slt_sle' h2 h1
    · rw [if_neg hb] at c
      rw [c.1]
      simpa [cont] using pairs_sort a
theorem cont_append (A B : Lev) : cont (A ++ B) = cont A ++ cont B := by simp [cont]
theorem cont_cons (x : Hd × BN) (B : Lev) : cont (x :: B) = x.2.pairs ++ cont B := by simp [cont]
/-- What stands left and right of the node that covers a key. -/
theorem cont_sides {A B : Lev} {x : Hd × BN} {lo k : Str} {nxt : Hd} {hi : Option Str} (h : Seg lo (A ++ x :: B) nxt hi) (hA : ∀ y, y ∈ A → y.2.covers k = false) (hx : x.2.covers k = true) :
    (∀ p, p ∈ cont A → slt p.1 k = true) ∧ (∀ p, p ∈ cont B → slt k p.1 = true) := by
  obtain ⟨m, h1, h2⟩ := seg_append.1 h
  constructor
  · intro p hp
    obtain ⟨y, hy, hk⟩ := cont_mem hp
    obtain ⟨l, _, hok⟩ := seg_ok h1 y hy
    have h3 := hok.cov _ hk
    have h4 := hA y hy
    rw [covers_hi] at h3 h4
    cases hq : y.2.hi with
    | none => rw [hq] at h4; cases h4
    | some z =>
      rw [hq] at h3 h4
      exact slt_sle' h3 (sle_iff.2 h4)
  · intro p hp
    obtain ⟨y, hy, hk⟩ := cont_mem hp
    obtain ⟨h0, n⟩ := x
    obtain ⟨_, _, c⟩ := h2
    by_cases hb : n.bnd = true
    · rw [if_pos hb] at c
      have h3 := seg_low c hy hk
      simp only [BN.covers, hb, Bool.not_true, Bool.false_or] at hx
      exact slt_sle' hx h3
    · rw [if_neg hb] at c
      rw [c.1] at hy; cases hy
section
variable {C CA P CB : Cont} {k v : Str}
theorem filter_all {α : Type} {p : α → Bool} {l : List α} (h : ∀ x, x ∈ l → p x = true) : l.filter p = l := List.filter_eq_self.2 h
theorem filter_none {α : Type} {p : α → Bool} {l : List α} (h : ∀ x, x ∈ l → p x = false) : l.filter p = [] := List.filter_eq_nil_iff.2 fun x hx => by simp [h x hx]
theorem find_none {α : Type} {p : α → Bool} {l : List α} (h : ∀ x, x ∈ l → p x = false) : l.find? p = none := List.find?_eq_none.2 fun x hx => by simp [h x hx]
theorem cput_mid (hA : ∀ p, p ∈ CA → slt p.1 k = true) (hB : ∀ p, p ∈ CB → slt k p.1 = true) : cput (CA ++ P ++ CB) k v = CA ++ cput P k v ++ CB := by
  unfold cput
  rw [List.filter_append, List.filter_append, List.filter_append, List.filter_append, filter_all hA, filter_none (l := CB) (p := fun p => slt p.1 k) (fun p hp => slt_asymm (hB p hp)),
    filter_none (l := CA) (p := fun p => slt k p.1) (fun p hp => slt_asymm (hA p hp)), filter_all hB]
  simp
theorem cdel_mid (hA : ∀ p, p ∈ CA → slt p.1 k = true) (hB : ∀ p, p ∈ CB → slt k p.1 = true) : cdel (CA ++ P ++ CB) k = CA ++ cdel P k ++ CB := by
  unfold cdel
  rw [List.filter_append, List.filter_append, filter_all (l := CA) (fun p hp => by simp [slt_ne (hA p hp)]), filter_all (l := CB) (fun p hp => by simp [Ne.symm (slt_ne (hB p hp))])]
theorem cget_mid (hA : ∀ p, p ∈ CA → slt p.1 k = true) (hB : ∀ p, p ∈ CB → slt k p.1 = true) : cget (CA ++ P ++ CB) k = cget P k := by
  unfold cget
  rw [List.find?_append, List.find?_append, find_none (l := CA) (fun p hp => by simp [slt_ne (hA p hp)]), find_none (l := CB) (fun p hp => by simp [Ne.symm (slt_ne (hB p hp))])]
  simp
/-- What stands below a key is passed over. -/
theorem cnext_low {after : Bool} (hA : ∀ p, p ∈ CA → slt p.1 k = true) : cnext (CA ++ C) k after = cnext C k after := by
  unfold cnext
  rw [List.find?_append, find_none (l := CA) (fun p hp => by
    have := hA p hp
    cases after <;> simp [sle, this, slt_asymm this])]
  simp
theorem cut_zip : ∀ {K V : List Str}, Rises K → V.length = K.length →
    (K.zip V).filter (fun p => slt p.1 k) = (K.zip V).take (cut k K) ∧ (K.zip V).filter (fun p => slt k p.1) = (K.zip V).drop (cutE k K)
  | [], V, _, _ => by simp [cut, cutE]
  | y :: K, [], _, h => by simp at h
  | y :: K, w :: V, hr, hl => by
    obtain ⟨h1, h2⟩ := List.pairwise_cons.1 hr
    obtain ⟨i1, i2⟩ := cut_zip (V := V) h2 (by simpa using hl)
    rw [cut_cons, cutE_cons, List.zip_cons_cons, List.filter_cons, List.filter_cons]
    by_cases hy : slt y k = true
    · rw [if_pos hy, if_pos hy, if_neg (by simp [slt_asymm hy]), if_pos (slt_sle hy), i1, i2]
      simp
    · rw [if_neg hy, if_neg hy]
      have hyk : sle k y = true := by simpa [sle] using hy
      have h3 : ∀ p, p ∈ K.zip V → slt k p.1 = true := fun p hp => sle_slt hyk (h1 _ (zip_mem hp))
      rw [filter_none (fun p hp => slt_asymm (h3 p hp)), filter_all h3]
      by_cases he : sle y k = true
      · have e : cutE k K = 0 := by
          cases K with
          | nil => rfl
          | cons z K =>
            rw [cutE_cons, if_neg]
            have := h1 z (by simp)
            have := sle_slt hyk this
            simp [sle, this]
        rw [if_pos he, if_neg (by simpa [sle] using he), e]
        simp
      · rw [if_neg he, if_pos (by simpa [sle] using he)]
        simp
theorem zip_insert : ∀ (K V : List Str) (i : Nat), V.length = K.length → i ≤ K.length → (K.insertIdx i k).zip (V.insertIdx i v) = (K.zip V).take i ++ (k, v) :: (K.zip V).drop i
  | K, V, 0, _, _ => by simp
  | [], _, i + 1, _, h => by simp at h
  | y :: K, [], i + 1, h, _ => by simp at h
  | y :: K, w :: V, i + 1, h, hi => by
    rw [List.insertIdx_succ_cons, List.insertIdx_succ_cons, List.zip_cons_cons, zip_insert K V i (by simpa using h) (by simpa using hi)]
    simp
theorem zip_set : ∀ (K V : List Str) (i : Nat), V.length = K.length → K[i]? = some k → K.zip (V.set i v) = (K.zip V).take i ++ (k, v) :: (K.zip V).drop (i + 1)
  | [], _, i, _, h => by simp at h
  | y :: K, [], _, h, _ => by simp at h
  | y :: K, w :: V, 0, _, h => by simp at h; simp [h]
  | y :: K, w :: V, i + 1, h, hi => by
    rw [List.set_cons_succ, List.zip_cons_cons, zip_set K V i (by simpa using h) (by simpa using hi)]
    simp
theorem zip_erase : ∀ (K V : List Str) (i : Nat), V.length = K.length → (K.eraseIdx i).zip (V.eraseIdx i) = (K.zip V).take i ++ (K.zip V).drop (i + 1)
  | [], V, i, _ => by simp
  | y :: K, [], _, h => by simp at h
  | y :: K, w :: V, 0, _ => by simp
  | y :: K, w :: V, i + 1, h => by
    rw [List.eraseIdx_cons_succ, List.eraseIdx_cons_succ, List.zip_cons_cons, zip_erase K V i (by simpa using h)]
    simp
variable {lo : Str} {n : BN}
theorem put_pairs (h : NodeOK lo n) (hl : n.leaf = true) : (n.put k v).pairs = cput n.pairs k v := by
  obtain ⟨e1, e2⟩ := cut_zip (k := k) h.rise (h.lf hl).1
  unfold cput BN.pairs
  rw [e1, e2, cutE_eq h.rise]
  unfold BN.put
  cases hh : hasK k n.keys
  · simp only [Bool.false_eq_true, if_false]
    rw [zip_insert _ _ _ (h.lf hl).1 (cut_le _ _)]
    rfl
  · simp only [if_true]
    rw [zip_set _ _ _ (h.lf hl).1 (hasK_iff.1 hh)]
theorem filter_or {α : Type} (p q : α → Bool) : ∀ (l : List α), (l.Pairwise fun a b => q a = true → p b = false) → l.filter (fun x => p x || q x) = l.filter p ++ (l.filter fun x => !p x && q x)
  | [], _ => rfl
  | a :: l, h => by
    obtain ⟨h1, h2⟩ := List.pairwise_cons.1 h
    have ih := filter_or p q l h2
    rw [List.filter_cons, List.filter_cons, List.filter_cons, ih]
    cases hp : p a
    · cases hq : q a
      · simp
      · have : l.filter p = [] := filter_none fun x hx => h1 x hx hq
        simp [this]
    · simp
theorem del_pairs (h : NodeOK lo n) (hl : n.leaf = true) : (n.del k).pairs = cdel n.pairs k := by
  obtain ⟨e1, e2⟩ := cut_zip (k := k) h.rise (h.lf hl).1
  have hs := pairs_sort h
  have e3 : cdel n.pairs k = (n.pairs.filter fun p => slt p.1 k) ++ n.pairs.filter fun p => slt k p.1 := by
    unfold cdel
    have h1 : (n.pairs.filter fun p => !decide (p.1 = k)) = n.pairs.filter fun p => slt p.1 k || slt k p.1 := by
      refine List.filter_congr fun p _ => ?_
      by_cases hp : p.1 = k
      · simp [hp, slt_irrefl]
      · cases h1 : slt p.1 k
        · cases h2 : slt k p.1
          · exact absurd (slt_eq h1 h2) hp
          · simp [hp]
        · simp [hp]
    rw [h1, filter_or]
    · congr 1
      refine List.filter_congr fun p _ => ?_
      cases h1 : slt k p.1
      · simp
      · simp [slt_asymm h1]
    · exact hs.imp fun {a b} hab hk => slt_asymm (slt_trans hk hab)
  rw [e3]
  unfold BN.pairs at *
  rw [e1, e2, cutE_eq h.rise]
  unfold BN.del
  cases hh : hasK k n.keys
  · simp only [Bool.false_eq_true, if_false, Nat.add_zero]
    rw [List.take_append_drop]
  · simp only [if_true]
    rw [zip_erase _ _ _ (h.lf hl).1]
theorem get_pairs (h : NodeOK lo n) (hl : n.leaf = true) : cget n.pairs k = if hasK k n.keys then some (n.old k) else none := by
  have hv := (h.lf hl).1
  have hget : ∀ (K V : List Str), Rises K → V.length = K.length → cget (K.zip V) k = if hasK k K then V[cut k K]? else none := by
    intro K
    induction K with
    | nil => intro V _ _; simp [cget, hasK]
    | cons y K ih =>
      intro V hr hl
      cases V with
      | nil => simp at hl
      | cons w V =>
        obtain ⟨h1, h2⟩ := List.pairwise_cons.1 hr
        have ih' := ih V h2 (by simpa using hl)
        unfold hasK cget at *
        rw [cut_cons, List.zip_cons_cons, List.find?_cons]
        by_cases hy : slt y k = true
        · have hne : ¬ y = k := slt_ne hy
          simp only [hne, decide_false, if_pos hy, List.getElem?_cons_succ]
          exact ih'
        · simp only [if_neg hy, List.getElem?_cons_zero]
          by_cases he : y = k
          · simp [he]
          · have hyk : slt k y = true := by
              cases h : slt k y
              · exact absurd (slt_eq (by simpa using hy) h) he
              · rfl
            simp only [he, decide_false]
            rw [find_none (fun p hp => by simp [Ne.symm (slt_ne (slt_trans hyk (h1 _ (zip_mem hp))))])]
            simp
  unfold BN.pairs BN.old
  rw [hget _ _ h.rise hv]
  cases hh : hasK k n.keys
  · rfl
  · have hlt := (List.getElem?_eq_some_iff.1 (hasK_iff.1 hh)).1
    simp only [if_true]
    rw [List.getD_eq_getElem?_getD, List.getElem?_eq_getElem (by omega)]
    rfl
/-- A leaf's first pair from a key on, or behind it. -/
theorem next_pairs (h : NodeOK lo n) (hl : n.leaf = true) (after : Bool) : cnext n.pairs k after = n.pairs[if after then cutE k n.keys else cut k n.keys]? := by
  have key : ∀ (K V : List Str), Rises K → V.length = K.length → (cnext (K.zip V) k true = (K.zip V)[cutE k K]? ∧ cnext (K.zip V) k false = (K.zip V)[cut k K]?) := by
    intro K
    induction K with
    | nil => intro V _ _; simp [cnext]
    | cons y K ih =>
      intro V hr hl
      cases V with
      | nil => simp at hl
      | cons w V =>
        obtain ⟨h1, h2⟩ := List.pairwise_cons.1 hr
        obtain ⟨i1, i2⟩ := ih V h2 (by simpa using hl)
        unfold cnext at *
        rw [cut_cons, cutE_cons, List.zip_cons_cons, List.find?_cons, List.find?_cons]
        simp only [if_true, Bool.false_eq_true, if_false] at i1 i2 ⊢
        constructor
        · by_cases he : sle y k = true
          · rw [if_pos he, sle_iff.1 he]
            simpa using i1
          · rw [if_neg he, show slt k y = true by simpa [sle] using he]
            simp
        · by_cases hy : slt y k = true
          · rw [if_pos hy, show sle k y = false by simp [sle, hy]]
            simpa using i2
          · rw [if_neg hy, show sle k y = true by simpa [sle] using hy]
            simp
  obtain ⟨k1, k2⟩ := key _ _ h.rise (h.lf hl).1
  unfold BN.pairs
  cases after
  · simpa using k2
  · simpa using k1
end
end Go.Proofs.Ytlhobbfncjjeaaa
namespace Go.Proofs.Ytlhobbfncjjeaaa
abbrev Sk := List (Hd × Option Str)
def covO (k : Str) (o : Option Str) : Bool := match o with
  | none => true
  | some x => slt k x
theorem covers_O (n : BN) (k : Str) : n.covers k = covO k n.hi := by rw [covers_hi]; cases n.hi <;> rfl
def kidsK (n : BN) : Sk := n.kids.zip (n.keys.map some ++ [n.hi])
def sk (R : Lev) : Sk := R.map fun x => (x.1, x.2.hi)
def under (R : Lev) : Sk := R.flatMap fun x => kidsK x.2
theorem sk_append (A B : Lev) : sk (A ++ B) = sk A ++ sk B := List.map_append
theorem sk_cons (x : Hd × BN) (B : Lev) : sk (x :: B) = (x.1, x.2.hi) :: sk B := rfl
theorem under_append (A B : Lev) : under (A ++ B) = under A ++ under B := by simp [under]
theorem under_cons (x : Hd × BN) (B : Lev) : under (x :: B) = kidsK x.2 ++ under B := by simp [under]
theorem kids_find {k : Str} {e : Option Str} (he : covO k e = true) : ∀ {K : List Str} {H : List Hd}, H.length = K.length + 1 →
    ∃ P a Q, H.zip (K.map some ++ [e]) = P ++ a :: Q ∧ P.length = cutE k K ∧ covO k a.2 = true ∧ (∀ x, x ∈ P → covO k x.2 = false) ∧ H[cutE k K]? = some a.1 ∧ a.2 = (K.map some ++ [e]).getD (cutE k K) none
  | [], [h], _ => ⟨[], (h, e), [], rfl, rfl, he, by simp, rfl, rfl⟩
  | [], [], h => by simp at h
  | [], _ :: _ :: _, h => by simp at h
  | y :: K, [], h => by simp at h
  | y :: K, h0 :: H, h => by
    rw [cutE_cons]
    by_cases hy : sle y k = true
    · obtain ⟨P, a, Q, h1, h2, h3, h4, h5, h6⟩ := kids_find he (K := K) (H := H) (by simpa using h)
      rw [if_pos hy]
      refine ⟨(h0, some y) :: P, a, Q, by simp [h1], by simp [h2], h3, fun x hx => ?_, by simpa using h5, by simpa using h6⟩
      rcases List.mem_cons.1 hx with rfl | hx
      · exact sle_iff.1 hy
      · exact h4 x hx
    · rw [if_neg hy]
      exact ⟨[], (h0, some y), H.zip (K.map some ++ [e]), rfl, rfl, by simpa [covO, sle] using hy, by simp, rfl, rfl⟩
theorem kids_none {lo k : Str} {n : BN} (h : NodeOK lo n) (hn : n.covers k = false) : ∀ x, x ∈ kidsK n → covO k x.2 = false := by
  intro x hx
  have h1 := (List.of_mem_zip hx).2
  rw [covers_O] at hn
  rcases List.mem_append.1 h1 with h2 | h2
  · obtain ⟨y, hy, e⟩ := List.mem_map.1 h2
    have h3 := h.cov y hy
    rw [covers_O] at h3
    rw [← e]
    cases hq : n.hi with
    | none => rw [hq] at hn; cases hn
    | some z =>
      rw [hq] at hn h3
      exact sle_iff.1 (slt_sle (slt_sle' h3 (sle_iff.2 hn)))
  · simp only [List.mem_singleton] at h2
    rw [h2]; exact hn
structure LevOK (lf : Bool) (R : Lev) : Prop where
  seg : Seg s0 R (0, 0) none
  lf : ∀ x, x ∈ R → x.2.leaf = lf
theorem LevOK.node {lf : Bool} {R : Lev} (h : LevOK lf R) {x : Hd × BN} (hx : x ∈ R) : ∃ l, NodeOK l x.2 := by
  obtain ⟨l, _, h1⟩ := seg_ok h.seg x hx
  exact ⟨l, h1⟩
theorem under_none {R : Lev} {k : Str} (hok : ∀ x, x ∈ R → ∃ l, NodeOK l x.2) (hn : ∀ x, x ∈ R → x.2.covers k = false) : ∀ y, y ∈ under R → covO k y.2 = false := by
  intro y hy
  obtain ⟨x, hx, hy⟩ := List.mem_flatMap.1 hy
  obtain ⟨l, hl⟩ := hok x hx
  exact kids_none hl (hn x hx) y hy
/-- Where the kid that covers a key stands in the level below. -/
theorem over_find {R S : Lev} {k : Str} {h : Hd} {n : BN} (hR : LevOK false R) (hs : sk S = under R) (ha : atK R k = some (h, n)) :
    ∃ A B A' B' y P Q, S = A ++ y :: B ∧ R = A' ++ (h, n) :: B' ∧ atK S k = some y ∧ n.kids[cutE k n.keys]? = some y.1 ∧ sk A = under A' ++ P ∧ kidsK n = P ++ (y.1, y.2.hi) :: Q ∧ sk B = Q ++ under B' ∧ P.length = cutE k n.keys ∧
      y.2.hi = (n.keys.map some ++ [n.hi]).getD (cutE k n.keys) none ∧ y.2.covers k = true ∧ (∀ z, z ∈ A → z.2.covers k = false) ∧ (∀ z, z ∈ A' → z.2.covers k = false) ∧ n.covers k = true := by
  obtain ⟨A', B', e1, hc, hA'⟩ := atK_split ha
  obtain ⟨l, hok⟩ := hR.node (x := (h, n)) (by rw [e1]; simp)
  have hlen := (hok.inn (hR.lf (h, n) (by rw [e1]; simp))).2
  have hc' : covO k n.hi = true := by rw [← covers_O]; exact hc
  obtain ⟨P, a, Q, k1, k2, k3, k4, k5, k6⟩ := kids_find hc' hlen
  have hX : ∀ x, x ∈ under A' → covO k x.2 = false := under_none (fun x hx => hR.node (by rw [e1]; simp [hx])) hA'
  rw [e1, under_append, under_cons, show kidsK (h, n).2 = P ++ a :: Q from k1] at hs
  have hs' : sk S = (under A' ++ P) ++ (a :: (Q ++ under B')) := by rw [hs]; simp
  obtain ⟨A, S2, e2, e3, e4⟩ := List.map_eq_append_iff.1 hs'
  obtain ⟨y, B, e5, e6, e7⟩ := List.map_eq_cons_iff.1 e4
  subst e5
  subst e6
  have hyc : y.2.covers k = true := by rw [covers_O]; exact k3
  have hAc : ∀ z, z ∈ A → z.2.covers k = false := fun z hz => by
    rw [covers_O]
    have : (z.1, z.2.hi) ∈ under A' ++ P := by rw [← e3]; exact List.mem_map_of_mem hz
    rcases List.mem_append.1 this with h1 | h1
    · exact hX _ h1
    · exact k4 _ h1
  exact ⟨A, B, A', B', y, P, Q, e2, e1, by rw [e2]; exact atK_mk hyc hAc, k5, e3, k1, e7, k2, k6, hyc, hAc, hA', hc⟩
theorem seg_replace {A B : Lev} {h : Hd} {n : BN} {lo : Str} {nxt : Hd} {hi : Option Str} (hs : Seg lo (A ++ (h, n) :: B) nxt hi) :
    ∃ m, Seg lo A h (some m) ∧ NodeOK m n ∧ sle lo m = true ∧ ∀ n', NodeOK m n' → n'.high = n.high → n'.bnd = n.bnd → n'.next = n.next → Seg lo (A ++ (h, n') :: B) nxt hi := by
  obtain ⟨m, h1, h2, h3, h4⟩ := seg_append.1 hs
  refine ⟨m, h1, h2, (seg_his h1).1, fun n' k1 k2 k3 k4 => seg_append.2 ⟨m, h1, k1, by rw [k4]; exact h3, ?_⟩⟩
  rw [k3, k2]; exact h4
theorem rightHalf_ends (n : BN) : n.rightHalf.high = n.high ∧ n.rightHalf.bnd = n.bnd ∧ n.rightHalf.next = n.next ∧ n.rightHalf.leaf = n.leaf := by
  unfold BN.rightHalf
  cases n.leaf <;> exact ⟨rfl, rfl, rfl, by simp [*]⟩
theorem rightHalf_hi (n : BN) : n.rightHalf.hi = n.hi := by
  obtain ⟨h1, h2, _⟩ := rightHalf_ends n
  unfold BN.hi
  rw [h1, h2]
theorem seg_split {A B : Lev} {h nx : Hd} {n : BN} {lo : Str} {nxt : Hd} {hi : Option Str} (hs : Seg lo (A ++ (h, n) :: B) nxt hi) (h2 : 2 ≤ n.keys.length) : Seg lo (A ++ (h, n.left nx) :: (nx, n.rightHalf) :: B) nxt hi := by
  obtain ⟨m, k1, k2, k3, k4⟩ := seg_append.1 hs
  obtain ⟨r1, r2, r3, _⟩ := rightHalf_ends n
  refine seg_append.2 ⟨m, k1, k2.left h2 nx, rfl, ?_⟩
  show if true = true then _ else _
  rw [if_pos rfl]
  refine ⟨k2.rightHalf h2, by rw [r3]; exact k3, ?_⟩
  rw [r1, r2]
  exact k4
/-- The halves of a node above leaves have its kids. -/
theorem kids_split {lo : Str} {n : BN} (h : NodeOK lo n) (hl : n.leaf = false) (h2 : 2 ≤ n.keys.length) (nx : Hd) : kidsK (n.left nx) ++ kidsK n.rightHalf = kidsK n := by
  have hm : n.mid < n.keys.length := by unfold BN.mid; omega
  have hlen := (h.inn hl).2
  have e1 : kidsK (n.left nx) = (n.kids.take (n.mid + 1)).zip ((n.keys.take n.mid).map some ++ [some n.sep]) := by
    unfold kidsK
    simp [BN.left, hl, BN.hi]
  have e2 : kidsK n.rightHalf = (n.kids.drop (n.mid + 1)).zip ((n.keys.drop (n.mid + 1)).map some ++ [n.hi]) := by
    unfold kidsK
    rw [rightHalf_hi]
    simp [BN.rightHalf, hl]
  rw [e1, e2, ← List.zip_append (by simp; omega), List.take_append_drop]
  unfold kidsK
  congr 1
  have e3 : n.keys = n.keys.take n.mid ++ n.sep :: n.keys.drop (n.mid + 1) := by
    have h3 := sep_at h2
    obtain ⟨_, h4⟩ := List.getElem?_eq_some_iff.1 h3
    rw [← h4]
    simp
  conv => rhs; rw [e3]
  simp
theorem cut_eq_of {k : Str} {l : List Str} {j : Nat} (hj : j ≤ l.length) (h1 : ∀ i x, i < j → l[i]? = some x → slt x k = true) (h2 : ∀ x, l[j]? = some x → slt x k = false) : cut k l = j := by
  rcases Nat.lt_trichotomy (cut k l) j with h | h | h
  · have hlt : cut k l < l.length := by omega
    have := h1 _ _ h (List.getElem?_eq_getElem hlt)
    rw [cut_at (List.getElem?_eq_getElem hlt)] at this
    cases this
  · exact h
  · have hlt : j < l.length := by have := cut_le k l; omega
    have := h2 _ (List.getElem?_eq_getElem hlt)
    rw [cut_lt h (List.getElem?_eq_getElem hlt)] at this
    cases this
/-- A kid more. -/
theorem kids_add {n : BN} {k : Str} {nx h : Hd} {e : Option Str} {P Q : Sk} (hk : kidsK n = P ++ (h, e) :: Q) (hlen : n.kids.length = n.keys.length + 1) (hP : P.length = cut k n.keys) : kidsK (n.add k nx) = P ++ (h, some k) :: (nx, e) :: Q := by
  have key : ∀ (P : Sk) (H : List Hd) (K : List Str) (z : Option Str), H.length = K.length + 1 → H.zip (K.map some ++ [z]) = P ++ (h, e) :: Q → P.length ≤ K.length →
      (H.insertIdx (P.length + 1) nx).zip ((K.insertIdx P.length k).map some ++ [z]) = P ++ (h, some k) :: (nx, e) :: Q := by
    intro P
    induction P with
    | nil =>
      intro H K z h1 h2 _
      cases H with
      | nil => simp at h1
      | cons a H =>
        have : K.map some ++ [z] ≠ [] := by simp
        obtain ⟨b, T, hb⟩ := List.exists_cons_of_ne_nil this
        rw [hb, List.zip_cons_cons] at h2
        simp only [List.nil_append, List.cons.injEq, Prod.mk.injEq] at h2
        obtain ⟨⟨rfl, rfl⟩, rfl⟩ := h2
        simp only [List.length_nil, Nat.zero_add, List.insertIdx_zero, List.insertIdx_succ_cons, List.map_cons, List.cons_append, List.zip_cons_cons, List.nil_append]
        rw [hb, List.zip_cons_cons]
    | cons p P ih =>
      intro H K z h1 h2 h3
      cases K with
      | nil => simp at h3
      | cons y K =>
        cases H with
        | nil => simp at h1
        | cons a H =>
          simp only [List.map_cons, List.cons_append, List.zip_cons_cons, List.cons.injEq] at h2
          have := ih H K z (by simpa using h1) h2.2 (by simpa using h3)
          simp only [List.length_cons, List.insertIdx_succ_cons, List.map_cons, List.cons_append, List.zip_cons_cons, this, h2.1]
  have := key P n.kids n.keys n.hi hlen hk (by rw [hP]; exact cut_le _ _)
  rw [hP] at this
  exact this
structure Tower (Ls : List Lev) : Prop where
  ok : ∀ i R, Ls[i]? = some R → LevOK (decide (i = 0)) R
  link : ∀ i S R, Ls[i]? = some S → Ls[i + 1]? = some R → sk S = under R
  top : ∃ x, Ls[Ls.length - 1]? = some [x]
/-- A split, told to the node above. -/
theorem split_above {R S : Lev} {lf : Bool} {k : Str} {h hp nx : Hd} {m n : BN} (hS : LevOK lf S) (hR : LevOK false R) (hs : sk S = under R) (h1 : atK S k = some (h, m)) (h2 : atK R k = some (hp, n)) (hk : 2 ≤ m.keys.length) :
    ∃ A B A' B', S = A ++ (h, m) :: B ∧ R = A' ++ (hp, n) :: B' ∧ (∀ z, z ∈ A → z.2.covers k = false) ∧ (∀ z, z ∈ A' → z.2.covers k = false) ∧ n.covers k = true ∧ hasK m.sep n.keys = false ∧ n.covers m.sep = true ∧
      LevOK lf (A ++ (h, m.left nx) :: (nx, m.rightHalf) :: B) ∧ LevOK false (A' ++ (hp, n.add m.sep nx) :: B') ∧ sk (A ++ (h, m.left nx) :: (nx, m.rightHalf) :: B) = under (A' ++ (hp, n.add m.sep nx) :: B') := by
  obtain ⟨A, B, A', B', y, P, Q, e1, e2, e3, e4, e5, e6, e7, e8, e9, e10, e11, e12, e13⟩ := over_find hR hs h2
  rw [h1] at e3
  injection e3 with e3
  subst e3
  simp only at e4 e6 e9 e10
  have hsegS := hS.seg
  rw [e1] at hsegS
  obtain ⟨lo, s1, s2, s3, s4⟩ := seg_replace hsegS
  have hsegR := hR.seg
  rw [e2] at hsegR
  obtain ⟨lr, r1, r2, r3, r4⟩ := seg_replace hsegR
  have hlf : n.leaf = false := hR.lf (hp, n) (by rw [e2]; simp)
  have hlen := (r2.inn hlf).2
  have hsl := sep_low s2 hk
  have hsc := sep_cov s2 hk
  have hj := cutE_le k n.keys
  have hhis := (seg_his s1).2
  -- what stands ahead of the kid ends below the parting key
  have hlow : ∀ i x, i < cutE k n.keys → n.keys[i]? = some x → slt x m.sep = true := by
    intro i x hi hx
    have hkk : (kidsK n)[i]? = some (n.kids.getD i (0, 0), some x) := by
      have hil := (List.getElem?_eq_some_iff.1 hx).1
      unfold kidsK
      rw [List.getElem?_zip_eq_some, List.getElem?_append_left (by simpa using hil), List.getElem?_map, hx]
      refine ⟨?_, rfl⟩
      rw [List.getD_eq_getElem?_getD, List.getElem?_eq_getElem (by omega)]
      rfl
    rw [e6, List.getElem?_append_left (by omega)] at hkk
    have hm : (n.kids.getD i (0, 0), some x) ∈ sk A := by rw [e5]; exact List.mem_append.2 (.inr (List.mem_of_getElem? hkk))
    obtain ⟨z, hz, he⟩ := List.mem_map.1 hm
    obtain ⟨q, hq, hle⟩ := hhis z hz
    injection he with _ he
    rw [hq] at he
    injection he with he
    rw [← he]
    exact sle_slt hle hsl
  have hat : ∀ x, n.keys[cutE k n.keys]? = some x → slt m.sep x = true := by
    intro x hx
    have : m.hi = some x := by
      rw [e9, List.getD_eq_getElem?_getD, List.getElem?_append_left (by have := (List.getElem?_eq_some_iff.1 hx).1; simpa using this), List.getElem?_map, hx]
      rfl
    rw [covers_O, this] at hsc
    exact hsc
  have hcut : cut m.sep n.keys = cutE k n.keys := cut_eq_of hj hlow (fun x hx => slt_asymm (hat x hx))
  have hno : hasK m.sep n.keys = false := by
    unfold hasK
    rw [hcut]
    cases hq : n.keys[cutE k n.keys]? with
    | none => rfl
    | some x => simpa using Ne.symm (slt_ne (hat x hq))
  have hcov : n.covers m.sep = true := by
    rcases Nat.lt_or_ge (cutE k n.keys) n.keys.length with h3 | h3
    · have h4 := hat _ (List.getElem?_eq_getElem h3)
      have h5 := r2.cov _ (List.getElem_mem h3)
      rw [covers_O] at h5 ⊢
      cases hq : n.hi with
      | none => rfl
      | some z =>
        rw [hq] at h5
        exact slt_trans h4 h5
    · have h4 : cutE k n.keys = n.keys.length := by omega
      rw [h4, List.getD_eq_getElem?_getD, List.getElem?_append_right (by simp)] at e9
      simp at e9
      rw [covers_O, ← e9, ← covers_O]
      exact hsc
  have hlr : sle lr m.sep = true := by
    refine slt_sle (sle_slt ?_ hsl)
    rcases seg_last r1 with ⟨_, rfl⟩ | ⟨A0, z, rfl, q1, _⟩
    · exact s3
    · obtain ⟨lz, hz⟩ := hR.node (x := z) (by rw [e2]; simp)
      have hzl : z.2.leaf = false := hR.lf z (by rw [e2]; simp)
      have hzk := (hz.inn hzl).2
      have hmem : (z.2.kids.getD z.2.keys.length (0, 0), some lr) ∈ sk A := by
        rw [e5]
        refine List.mem_append.2 (.inl (List.mem_flatMap.2 ⟨z, by simp, ?_⟩))
        refine List.mem_of_getElem? (i := z.2.keys.length) ?_
        unfold kidsK
        rw [List.getElem?_zip_eq_some, List.getElem?_append_right (by simp), q1]
        refine ⟨?_, by simp⟩
        rw [List.getD_eq_getElem?_getD, List.getElem?_eq_getElem (by omega)]
        rfl
      obtain ⟨z', hz', he⟩ := List.mem_map.1 hmem
      obtain ⟨q, hq, hle⟩ := hhis z' hz'
      injection he with _ he
      rw [hq] at he
      injection he with he
      rw [← he]; exact hle
  refine ⟨A, B, A', B', e1, e2, e11, e12, e13, hno, hcov, ⟨seg_split hsegS hk, fun x hx => ?_⟩, ⟨r4 _ (r2.add hlf nx hno hlr hcov) rfl rfl rfl, fun x hx => ?_⟩, ?_⟩
  · have hmem : ∀ x, x ∈ A ++ (h, m) :: B → x.2.leaf = lf := fun x hx => hS.lf x (by rw [e1]; exact hx)
    have hm := hmem (h, m) (by simp)
    simp only [List.mem_append, List.mem_cons] at hx
    rcases hx with hx | rfl | rfl | hx
    · exact hmem x (by simp [hx])
    · exact hm
    · rw [(rightHalf_ends m).2.2.2]; exact hm
    · exact hmem x (by simp [hx])
  · have hmem : ∀ x, x ∈ A' ++ (hp, n) :: B' → x.2.leaf = false := fun x hx => hR.lf x (by rw [e2]; exact hx)
    simp only [List.mem_append, List.mem_cons] at hx
    rcases hx with hx | rfl | hx
    · exact hmem x (by simp [hx])
    · exact hlf
    · exact hmem x (by simp [hx])
  · rw [sk_append, sk_cons, sk_cons, under_append, under_cons, kids_add e6 hlen (by rw [hcut]; exact e8), e5, e7, rightHalf_hi]
    simp [BN.left, BN.hi]
end Go.Proofs.Ytlhobbfncjjeaaa
namespace Go.Proofs.Ytlhobbfncjjeaaa
theorem set_get {α : Type} {l : List α} {i j : Nat} {a b : α} (h : (l.set i a)[j]? = some b) : (i = j ∧ b = a) ∨ (i ≠ j ∧ l[j]? = some b) := by
  rw [List.getElem?_set] at h
  by_cases hij : i = j
  · rw [if_pos hij] at h
    split at h
    · injection h with h; exact .inl ⟨hij, h.symm⟩
    · cases h
  · rw [if_neg hij] at h
    exact .inr ⟨hij, h⟩
theorem get_set_self {α : Type} {l : List α} {i : Nat} {a b : α} (h : l[i]? = some b) : (l.set i a)[i]? = some a := by
  rw [List.getElem?_set, if_pos rfl, if_pos (List.getElem?_eq_some_iff.1 h).1]
theorem under_split {A B : Lev} {h nx : Hd} {m : BN} (hS : LevOK false (A ++ (h, m) :: B)) (hk : 2 ≤ m.keys.length) : under (A ++ (h, m.left nx) :: (nx, m.rightHalf) :: B) = under (A ++ (h, m) :: B) := by
  obtain ⟨l, hl⟩ := hS.node (x := (h, m)) (by simp)
  rw [under_append, under_append, under_cons, under_cons, under_cons, ← List.append_assoc (kidsK _), kids_split hl (hS.lf (h, m) (by simp)) hk]
section
variable {Ls : List Lev}
theorem Tower.split (ht : Tower Ls) {i : Nat} {S R : Lev} {k : Str} {h hp nx : Hd} {m n : BN} (hS : Ls[i]? = some S) (hR : Ls[i + 1]? = some R) (h1 : atK S k = some (h, m)) (h2 : atK R k = some (hp, n)) (hk : 2 ≤ m.keys.length) :
    ∃ A B A' B', S = A ++ (h, m) :: B ∧ R = A' ++ (hp, n) :: B' ∧ (∀ z, z ∈ A → z.2.covers k = false) ∧ (∀ z, z ∈ A' → z.2.covers k = false) ∧ n.covers k = true ∧ hasK m.sep n.keys = false ∧ n.covers m.sep = true ∧
      Tower ((Ls.set i (A ++ (h, m.left nx) :: (nx, m.rightHalf) :: B)).set (i + 1) (A' ++ (hp, n.add m.sep nx) :: B')) := by
  have okR := ht.ok _ _ hR
  rw [show decide (i + 1 = 0) = false by simp] at okR
  obtain ⟨A, B, A', B', e1, e2, c1, c2, c3, c4, c5, q1, q2, q3⟩ := split_above (nx := nx) (ht.ok _ _ hS) okR (ht.link _ _ _ hS hR) h1 h2 hk
  refine ⟨A, B, A', B', e1, e2, c1, c2, c3, c4, c5, fun j T hT => ?_, fun j T U hT hU => ?_, ?_⟩
  · rcases set_get hT with ⟨rfl, rfl⟩ | ⟨_, hT⟩
    · simpa using q2
    · rcases set_get hT with ⟨rfl, rfl⟩ | ⟨_, hT⟩
      · exact q1
      · exact ht.ok _ _ hT
  · rcases set_get hT with ⟨rfl, rfl⟩ | ⟨n1, hT⟩
    · -- the level of the parent, below another one
      rcases set_get hU with ⟨e, _⟩ | ⟨_, hU⟩
      · omega
      · rcases set_get hU with ⟨e, _⟩ | ⟨_, hU⟩
        · omega
        · have := ht.link _ _ _ hR hU
          rw [e2] at this
          rw [← this, sk_append, sk_append, sk_cons, sk_cons]
          rfl
    · rcases set_get hT with ⟨rfl, rfl⟩ | ⟨n2, hT⟩
      · rcases set_get hU with ⟨_, rfl⟩ | ⟨e, _⟩
        · exact q3
        · exact absurd rfl e
      · rcases set_get hU with ⟨e, _⟩ | ⟨_, hU⟩
        · omega
        · rcases set_get hU with ⟨e, rfl⟩ | ⟨_, hU⟩
          · have hi : decide (i = 0) = false := by simp; omega
            have okS := ht.ok _ _ hS
            rw [hi, e1] at okS
            rw [under_split okS hk, ← e1]
            exact ht.link _ _ _ hT (by rw [← e]; exact hS)
          · exact ht.link _ _ _ hT hU
  · obtain ⟨x, hx⟩ := ht.top
    simp only [List.length_set]
    have hlt := (List.getElem?_eq_some_iff.1 hR).1
    by_cases he : i + 1 = Ls.length - 1
    · rw [← he] at hx
      rw [hR, e2] at hx
      injection hx with hx
      have h0 : A' = [] ∧ B' = [] := by
        cases A' with
        | nil => simp at hx; exact ⟨rfl, hx.2⟩
        | cons a A' => simp at hx
      refine ⟨(hp, n.add m.sep nx), ?_⟩
      rw [← he, List.getElem?_set, if_pos rfl, List.length_set, if_pos hlt, h0.1, h0.2]
      rfl
    · refine ⟨x, ?_⟩
      rw [List.getElem?_set, if_neg he, List.getElem?_set, if_neg (by omega)]
      exact hx
/-- The node that a split root's halves get. -/
def newRoot (sep : Str) (h nx : Hd) : BN := { leaf := false, keys := [sep], vals := [], kids := [h, nx], high := s0, bnd := false, next := (0, 0) }
theorem Tower.splitTop (ht : Tower Ls) {h nx top : Hd} {m : BN} (hS : Ls[Ls.length - 1]? = some [(h, m)]) (hk : 2 ≤ m.keys.length) :
    Tower (Ls.set (Ls.length - 1) [(h, m.left nx), (nx, m.rightHalf)] ++ [[(top, newRoot m.sep h nx)]]) := by
  have hlt := (List.getElem?_eq_some_iff.1 hS).1
  have okS := ht.ok _ _ hS
  obtain ⟨s1, s2, s3⟩ := okS.seg
  have hb : m.bnd = false := by
    cases hb : m.bnd
    · rfl
    · rw [if_pos hb] at s3; cases s3
  have hhi : m.hi = none := by simp [BN.hi, hb]
  have ok1 : LevOK (decide (Ls.length - 1 = 0)) [(h, m.left nx), (nx, m.rightHalf)] := by
    refine ⟨seg_split (A := []) (B := []) okS.seg hk, fun x hx => ?_⟩
    have hm := okS.lf (h, m) (by simp)
    simp only [List.mem_cons, List.not_mem_nil, or_false] at hx
    rcases hx with rfl | rfl
    · exact hm
    · rw [(rightHalf_ends m).2.2.2]; exact hm
  have ok2 : LevOK false [(top, newRoot m.sep h nx)] := by
    refine ⟨⟨⟨?_, ?_, ?_, fun _ => rfl, fun e => by simp [newRoot] at e, fun _ => ⟨rfl, rfl⟩, fun e => by simp [newRoot] at e⟩, rfl, ?_⟩, fun x hx => by simp at hx; rw [hx]; rfl⟩
    · simp [newRoot, Rises]
    · intro k _; exact sle_s0 k
    · intro k _; rfl
    · simp [newRoot]
  have hget : ∀ {j : Nat} {T : Lev}, (Ls.set (Ls.length - 1) [(h, m.left nx), (nx, m.rightHalf)] ++ [[(top, newRoot m.sep h nx)]])[j]? = some T →
      (j = Ls.length ∧ T = [(top, newRoot m.sep h nx)]) ∨ (j = Ls.length - 1 ∧ T = [(h, m.left nx), (nx, m.rightHalf)]) ∨ (j < Ls.length - 1 ∧ Ls[j]? = some T) := by
    intro j T hT
    rcases Nat.lt_or_ge j Ls.length with h1 | h1
    · rw [List.getElem?_append_left (by simpa using h1)] at hT
      rcases set_get hT with ⟨e, rfl⟩ | ⟨e, hT⟩
      · exact .inr (.inl ⟨e.symm, rfl⟩)
      · exact .inr (.inr ⟨by omega, hT⟩)
    · rw [List.getElem?_append_right (by simpa using h1)] at hT
      simp only [List.length_set] at hT
      have h2 := (List.getElem?_eq_some_iff.1 hT).1
      simp only [List.length_cons, List.length_nil] at h2
      have h3 : j = Ls.length := by omega
      subst h3
      simp at hT
      exact .inl ⟨rfl, hT.symm⟩
  refine ⟨fun j T hT => ?_, fun j T U hT hU => ?_, ⟨(top, newRoot m.sep h nx), ?_⟩⟩
  · rcases hget hT with ⟨rfl, rfl⟩ | ⟨rfl, rfl⟩ | ⟨_, hT⟩
    · rw [show decide (Ls.length = 0) = false by simp; intro e; rw [e] at hlt; simp at hlt]
      exact ok2
    · exact ok1
    · exact ht.ok _ _ hT
  · rcases hget hT with ⟨rfl, rfl⟩ | ⟨rfl, rfl⟩ | ⟨h1, hT⟩
    · rcases hget hU with ⟨e, _⟩ | ⟨e, _⟩ | ⟨e, _⟩ <;> omega
    · rcases hget hU with ⟨e, rfl⟩ | ⟨e, _⟩ | ⟨e, _⟩
      · rw [sk_cons, sk_cons, rightHalf_hi, hhi]
        simp [sk, under, kidsK, newRoot, BN.hi, BN.left]
      · omega
      · omega
    · rcases hget hU with ⟨e, _⟩ | ⟨e, rfl⟩ | ⟨e, hU⟩
      · omega
      · have hi : decide (Ls.length - 1 = 0) = false := by simp; omega
        rw [hi] at okS
        have h2 := under_split (A := []) (B := []) (nx := nx) okS hk
        simp only [List.nil_append] at h2
        rw [h2]
        exact ht.link _ _ _ hT (by rw [e]; exact hS)
      · exact ht.link _ _ _ hT hU
  · simp
/-- A leaf turned. -/
theorem Tower.leaf (ht : Tower Ls) {A B : Lev} {h : Hd} {n n' : BN} (hS : Ls[0]? = some (A ++ (h, n) :: B)) (hn : ∀ m, NodeOK m n → Seg s0 A h (some m) → NodeOK m n') (e1 : n'.high = n.high) (e2 : n'.bnd = n.bnd) (e3 : n'.next = n.next) (e4 : n'.leaf = n.leaf) :
    Tower (Ls.set 0 (A ++ (h, n') :: B)) := by
  have okS := ht.ok _ _ hS
  obtain ⟨m, s1, s2, s3, s4⟩ := seg_replace okS.seg
  have ok' : LevOK (decide (0 = 0)) (A ++ (h, n') :: B) := by
    refine ⟨s4 n' (hn m s2 s1) e1 e2 e3, fun x hx => ?_⟩
    have hmem : ∀ x, x ∈ A ++ (h, n) :: B → x.2.leaf = decide (0 = 0) := fun x hx => okS.lf x hx
    simp only [List.mem_append, List.mem_cons] at hx
    rcases hx with hx | rfl | hx
    · exact hmem x (by simp [hx])
    · show n'.leaf = _
      rw [e4]; exact hmem (h, n) (by simp)
    · exact hmem x (by simp [hx])
  refine ⟨fun j T hT => ?_, fun j T U hT hU => ?_, ?_⟩
  · rcases set_get hT with ⟨rfl, rfl⟩ | ⟨_, hT⟩
    · exact ok'
    · exact ht.ok _ _ hT
  · rcases set_get hU with ⟨e, _⟩ | ⟨_, hU⟩
    · omega
    · rcases set_get hT with ⟨rfl, rfl⟩ | ⟨_, hT⟩
      · have := ht.link _ _ _ hS hU
        rw [← this, sk_append, sk_append, sk_cons, sk_cons]
        have : n'.hi = n.hi := by unfold BN.hi; rw [e1, e2]
        rw [this]
      · exact ht.link _ _ _ hT hU
  · obtain ⟨x, hx⟩ := ht.top
    simp only [List.length_set]
    by_cases he : 0 = Ls.length - 1
    · rw [← he, hS] at hx
      injection hx with hx
      have h0 : A = [] ∧ B = [] := by
        cases A with
        | nil => simp at hx; exact ⟨rfl, hx.2⟩
        | cons a A => simp at hx
      refine ⟨(h, n'), ?_⟩
      rw [← he, get_set_self hS, h0.1, h0.2]
      rfl
    · exact ⟨x, by rw [List.getElem?_set, if_neg he]; exact hx⟩
/-! ### How many -/
def Slim (Ls : List Lev) : Prop := ∀ (i : Nat) (R : Lev), Ls[i]? = some R → ∀ x : Hd × BN, x ∈ R → x.2.keys.length ≤ 4
def Thick (Ls : List Lev) : Prop := ∀ (i : Nat) (R : Lev), Ls[i]? = some R → 0 < i → ∀ x : Hd × BN, x ∈ R → 1 ≤ x.2.keys.length
def leaves (Ls : List Lev) : Nat := (Ls.getD 0 []).length
def nodes (Ls : List Lev) : Nat := Ls.flatten.length
theorem under_len : ∀ {R : Lev}, LevOK false R ∨ (∀ x : Hd × BN, x ∈ R → x.2.kids.length = x.2.keys.length + 1) → (∀ x : Hd × BN, x ∈ R → 1 ≤ x.2.keys.length) → 2 * R.length ≤ (under R).length := by
  intro R h hk
  have hk2 : ∀ x : Hd × BN, x ∈ R → x.2.kids.length = x.2.keys.length + 1 := by
    rcases h with h | h
    · intro x hx
      obtain ⟨l, hl⟩ := h.node hx
      exact (hl.inn (h.lf x hx)).2
    · exact h
  clear h
  induction R with
  | nil => simp
  | cons x R ih =>
    have := ih (fun y hy => hk y (by simp [hy])) (fun y hy => hk2 y (by simp [hy]))
    rw [under_cons, List.length_append, List.length_cons]
    have h1 := hk x (by simp)
    have h2 := hk2 x (by simp)
    have h3 : (kidsK x.2).length = x.2.keys.length + 1 := by unfold kidsK; simp; omega
    omega
theorem Tower.halve (ht : Tower Ls) (hk : Thick Ls) {i : Nat} {S R : Lev} (hS : Ls[i]? = some S) (hR : Ls[i + 1]? = some R) : 2 * R.length ≤ S.length := by
  have okR := ht.ok _ _ hR
  rw [show decide (i + 1 = 0) = false by simp] at okR
  have h1 := under_len (.inl okR) (hk _ _ hR (by omega))
  rw [← ht.link _ _ _ hS hR] at h1
  simpa [sk] using h1
/-- From a level up: as many nodes as twice its own, at most; and it doubles with each level. -/
theorem Tower.sizes (ht : Tower Ls) (hk : Thick Ls) : ∀ (d i : Nat) (S : Lev), i + d + 1 = Ls.length → Ls[i]? = some S → (Ls.drop i).flatten.length + 1 ≤ 2 * S.length ∧ 2 ^ d ≤ S.length
  | 0, i, S, hd, hS => by
    obtain ⟨x, hx⟩ := ht.top
    have : i = Ls.length - 1 := by omega
    rw [← this, hS] at hx
    injection hx with hx
    have h1 : Ls.drop i = [S] := by
      have hi := (List.getElem?_eq_some_iff.1 hS)
      rw [List.drop_eq_getElem_cons hi.1, hi.2, List.drop_eq_nil_of_le (by omega)]
    rw [h1, hx]
    simp
  | d + 1, i, S, hd, hS => by
    have hi := (List.getElem?_eq_some_iff.1 hS)
    have hlt : i + 1 < Ls.length := by omega
    obtain ⟨h1, h2⟩ := ht.sizes hk d (i + 1) Ls[i + 1] (by omega) (List.getElem?_eq_getElem hlt)
    have h3 := ht.halve hk hS (List.getElem?_eq_getElem hlt)
    rw [List.drop_eq_getElem_cons hi.1, hi.2, List.flatten_cons, List.length_append]
    refine ⟨by omega, ?_⟩
    rw [Nat.pow_succ]
    omega
theorem Tower.size (ht : Tower Ls) (hk : Thick Ls) : nodes Ls + 1 ≤ 2 * leaves Ls ∧ 2 ^ (Ls.length - 1) ≤ leaves Ls ∧ 0 < Ls.length := by
  obtain ⟨x, hx⟩ := ht.top
  have hlt := (List.getElem?_eq_some_iff.1 hx).1
  have h0 : Ls[0]? = some Ls[0] := List.getElem?_eq_getElem (by omega)
  obtain ⟨h1, h2⟩ := ht.sizes hk (Ls.length - 1) 0 _ (by omega) h0
  have h3 : leaves Ls = Ls[0].length := by unfold leaves; rw [List.getD_eq_getElem?_getD, h0]; rfl
  rw [List.drop_zero] at h1
  exact ⟨by rw [h3]; exact h1, by rw [h3]; exact h2, by omega⟩
end
end Go.Proofs.Ytlhobbfncjjeaaa
