/- The law EpochPins without its walk: the five bools, what Pinned tells of them. -/
import Derived.Test.YtidiefcgepllmaaEpochAwake
namespace Go.Proofs.Ytidiefcgepllmaa
open Go.RowKit
/-- Five bools in a block of the law's own. -/
def Jb5 (base ob : Nat) (x : List Bool) (O : List Nat) (w : World) : Prop := O = [ob] ∧ base ≤ ob ∧ x.length = 5 ∧ w.heap[ob]? = some (.cells (x.map Value.bool).toArray 48)
def Rnone {σ : Type} (_ : Ret) (x : σ) (g : EpG) (x' : σ) (g' : EpG) (l : List Ret) : Prop := x' = x ∧ g' = g ∧ l = []
def ApF (F : FuncId) (r : Ret) : Prop := r.f = F ∧ r.caps = #[]
theorem pins1_any (w : World) : Calls Try.prog 26 #[] w fun z w' => z = .returned (.tuple #[]) ∧ w = w' := by
  go_enter Try.func26, Try.ntmps26
  go_wp2
  go_end0
  exact ⟨rfl, rfl⟩
theorem clo_pins (base ob e m : Nat) : Clo (Jb5 base ob) Rnone e m (base := base) (ApF 26) 100000 (fun _ _ => True) where
  down := fun _ _ _ => trivial
  okr := fun _ _ _ _ _ _ _ _ _ => trivial
  stab := by
    rintro x O w w' T ⟨rfl, h1, h2, h3⟩ hu hT
    exact ⟨rfl, h1, h2, hu.heap h3 (fun hh => hT _ hh (by simp))⟩
  lt := by
    rintro x O w ⟨rfl, h1, h2, h3⟩ k hk
    simp at hk
    subst hk
    exact ⟨h1, heap_lt h3⟩
  app := by
    rintro r x g x' g' l ⟨_, _, rfl⟩
    simp
  enter := by
    rintro r ⟨h, _⟩
    rw [h]
    exact enters_of Try.func26 (by kernel_rfl) rfl
  run := by
    rintro r ⟨h1, h2⟩ x g O v L w hE _ _ _
    rw [h1, h2]
    refine (pins1_any w).mono ?_
    rintro z w' ⟨rfl, rfl⟩
    exact ⟨rfl, v, O, x, g, [], by rw [List.append_nil]; exact hE, ⟨rfl, rfl, rfl⟩, Upd.refl _ _, fun k hk => .inl hk⟩
/-- The numbers below n whose bool is true. -/
def upto (x : List Bool) (n : Nat) : List Int := ((List.range n).filter fun i => x.getD i false).map Int.ofNat
theorem upto_succ (x : List Bool) (n : Nat) : upto x (n + 1) = upto x n ++ (if x.getD n false = true then [(n : Int)] else []) := by
  unfold upto
  rw [List.range_succ, List.filter_append, List.map_append]
  congr 1
  cases h : x.getD n false <;> simp only [List.filter_cons, List.filter_nil, h, if_true, Bool.false_eq_true, if_false, List.map_cons, List.map_nil] <;> rfl
theorem upto_mono (x : List Bool) (n k : Nat) : ∃ r, upto x (n + k) = upto x n ++ r := by
  induction k with
  | zero => exact ⟨[], by simp⟩
  | succ k ih =>
    obtain ⟨r, hr⟩ := ih
    exact ⟨_, by rw [← Nat.add_assoc, upto_succ, hr, List.append_assoc]⟩
theorem mem_upto (x : List Bool) (n : Nat) (a : Int) : a ∈ upto x n ↔ ∃ i : Nat, i < n ∧ x.getD i false = true ∧ a = i := by
  simp only [upto, List.mem_map, List.mem_filter, List.mem_range]
  constructor
  · rintro ⟨i, ⟨h1, h2⟩, rfl⟩; exact ⟨i, h1, h2, rfl⟩
  · rintro ⟨i, h1, h2, rfl⟩; exact ⟨i, ⟨h1, h2⟩, rfl⟩
theorem upto_sorted (x : List Bool) (n : Nat) : (upto x n).Pairwise (fun a b => a < b) := by
  induction n with
  | zero => simp [upto]
  | succ n ih =>
    rw [upto_succ, List.pairwise_append]
    refine ⟨ih, by split <;> simp, fun a ha b hb => ?_⟩
    obtain ⟨i, h1, _, rfl⟩ := (mem_upto x n a).1 ha
    split at hb
    · simp at hb; omega
    · simp at hb
/-- What is pinned, and the five bools. -/
structure PinsOf (x : List Bool) (S : List Pn) : Prop where
  len : x.length = 5
  all : ∀ y, y ∈ S → ∃ i : Nat, i < 5 ∧ y.task = i ∧ x.getD i false = true
  back : ∀ i : Nat, i < 5 → x.getD i false = true → ∃ y, y ∈ S ∧ y.task = i
theorem rising_eq {x : List Bool} {S : List Pn} (h : PinsOf x S) (hn : (S.map Pn.task).Nodup) : rising S = upto x 5 := by
  have hp : (S.map Pn.task).Perm (upto x 5) := by
    refine perm_of_nodup hn ((upto_sorted x 5).imp (fun hab => by omega)) fun a => ?_
    rw [mem_upto]
    constructor
    · intro ha
      obtain ⟨y, hy, rfl⟩ := List.mem_map.1 ha
      obtain ⟨i, h1, h2, h3⟩ := h.all y hy
      exact ⟨i, h1, h3, h2⟩
    · rintro ⟨i, h1, h2, rfl⟩
      obtain ⟨y, hy, hyt⟩ := h.back i h1 h2
      rw [← hyt]
      exact List.mem_map_of_mem hy
  unfold rising
  rw [show (S.map Pn.task).mergeSort (fun x y => decide (x ≤ y)) = (upto x 5).mergeSort (fun x y => decide (x ≤ y)) from mergeSort_of_perm_i hp]
  exact List.mergeSort_of_pairwise ((upto_sorted x 5).imp (fun hab => by simp; omega))
theorem PinsOf.nil : PinsOf [false, false, false, false, false] [] := ⟨rfl, by simp, fun i hi h => by
  rcases i with _ | _ | _ | _ | _ | i <;> simp at h⟩
theorem getD_set {x : List Bool} {n i : Nat} {b : Bool} (hn : n < x.length) : (x.set n b).getD i false = if i = n then b else x.getD i false := by
  simp only [List.getD_eq_getElem?_getD, List.getElem?_set]
  by_cases h : n = i
  · subst h; simp [hn]
  · rw [if_neg h, if_neg (fun e => h e.symm)]
theorem PinsOf.pin {x : List Bool} {S : List Pn} (h : PinsOf x S) {n : Nat} (hn : n < 5) (t c : Nat) : PinsOf (x.set n true) (S ++ [⟨n, t, c⟩]) := by
  have hl : n < x.length := by rw [h.len]; exact hn
  refine ⟨by rw [List.length_set]; exact h.len, fun y hy => ?_, fun i hi hx => ?_⟩
  · rcases List.mem_append.1 hy with hy | hy
    · obtain ⟨i, h1, h2, h3⟩ := h.all y hy
      exact ⟨i, h1, h2, by rw [getD_set hl]; split <;> simp_all⟩
    · simp at hy; subst hy
      exact ⟨n, hn, rfl, by rw [getD_set hl]; simp⟩
  · rw [getD_set hl] at hx
    by_cases hin : i = n
    · subst hin; exact ⟨⟨i, t, c⟩, by simp, rfl⟩
    · rw [if_neg hin] at hx
      obtain ⟨y, hy, hyt⟩ := h.back i hi hx
      exact ⟨y, by simp [hy], hyt⟩
theorem PinsOf.unpin {x : List Bool} {S : List Pn} (h : PinsOf x S) {n : Nat} (hn : n < 5) : PinsOf (x.set n false) (dropTask n S) := by
  have hl : n < x.length := by rw [h.len]; exact hn
  refine ⟨by rw [List.length_set]; exact h.len, fun y hy => ?_, fun i hi hx => ?_⟩
  · simp [dropTask] at hy
    obtain ⟨i, h1, h2, h3⟩ := h.all y hy.1
    refine ⟨i, h1, h2, ?_⟩
    rw [getD_set hl, if_neg (fun e => hy.2 (by rw [h2, e])), h3]
  · rw [getD_set hl] at hx
    by_cases hin : i = n
    · subst hin; simp at hx
    · rw [if_neg hin] at hx
      obtain ⟨y, hy, hyt⟩ := h.back i hi hx
      exact ⟨y, by simp [dropTask, hy, hyt]; omega, hyt⟩
theorem PinsOf.is {x : List Bool} {S : List Pn} (h : PinsOf x S) {n : Nat} (hn : n < 5) : decide (∃ y, y ∈ S ∧ y.task = (n : Int)) = x.getD n false := by
  cases hx : x.getD n false with
  | true => exact decide_eq_true (h.back n hn hx)
  | false =>
    refine decide_eq_false ?_
    rintro ⟨y, hy, hyt⟩
    obtain ⟨i, h1, h2, h3⟩ := h.all y hy
    have : i = n := by omega
    subst this
    rw [hx] at h3
    cases h3
theorem ew_b5 {base base' ob e m : Nat} {w0 w : World} {x : List Bool} {g : EpG} {b : Bool} {L : List Ret} (h : EW (Jb5 base ob) base' e m w0 w x g b L) :
    x.length = 5 ∧ (∀ i, i < 5 → w.cell? ⟨ob, i, none⟩ = some (.bool (x.getD i false))) ∧ (∀ i, w.frozen? ⟨ob, i, none⟩ = false) ∧ ob < w.heap.size := by
  obtain ⟨v, O, h⟩ := h
  obtain ⟨_, _, h1, h2⟩ := h.ej.rest
  refine ⟨h1, fun i hi => ?_, frozen_of_heap h2, heap_lt h2⟩
  rw [cell_of_heap h2]
  simp [List.getD_eq_getElem?_getD, List.getElem?_eq_getElem (show i < x.length by omega)]
theorem EW.set5 {base base' ob e m : Nat} {w0 w : World} {x : List Bool} {g : EpG} {b : Bool} {L : List Ret} (h : EW (Jb5 base ob) base' e m w0 w x g b L) (n : Nat) (d : Bool) :
    EW (Jb5 base ob) base' e m w0 (w.setCell ⟨ob, n, none⟩ (.bool d)) (x.set n d) g b L := by
  have hu : Upd [ob] w (w.setCell ⟨ob, n, none⟩ (.bool d)) := (Upd.refl _ _).setCell (p := ⟨ob, n, none⟩) (by simp) _
  refine h.rest hu ?_ ?_
  · rintro O ⟨rfl, _⟩ k hk
    exact .inl hk
  · rintro O ⟨rfl, h1, h2, h3⟩
    refine ⟨[ob], ⟨rfl, h1, by rw [List.length_set]; exact h2, ?_⟩, fun k hk => .inl hk⟩
    rw [heap_set_same h3]
    congr 2
    rw [List.map_set]
    simp
end Go.Proofs.Ytidiefcgepllmaa
