/- The helpers 'least' and 'two' of the arena's laws, and the law ArenaLeast. -/
import Derived.Test.YtoknkedmpdcinaaArenaAwake
import Derived.Test.YtoknkedmpdcinaaFlat
import Derived.OpenShut
import Derived.Maps.AppendAt
import Derived.RegionTactic
namespace Go.Proofs.Ytoknkedmpdcinaa
open Go.RowKit
theorem least_any (ms : Nat) (S : List Ent) (cs : Nat) (n : Nat) (w : World) (h : w.heap[ms]? = some (.map (ents S) cs)) (hn : n ≤ 4096) (h1 : ∀ j : Nat, j < n → val? S j = some (.int .i64 1)) (h2 : val? S n = none) :
    Calls Try.prog 34 #[.map (some ms)] w fun e w' => e = .returned (.int .i64 n) ∧ w = w' := by
  have hl := fun k : Int => run_lookup_one (P := Try.prog) (z := .int .i64 0) k Try.underlying27 Try.underlying3 h (by kernel_rfl)
  replace hl := Lib.hid hl
  replace h1 := Lib.hid h1
  replace h2 := Lib.hid h2
  clear h
  go_enter Try.func34, Try.ntmps34
  go_wp2
  go_loop [3] (fun i => ∃ k : Nat, k ≤ n ∧ i = .int .i64 k) (fun i => n - (intOf i).toNat)
  case atStart => exact ⟨0, Nat.zero_le _, rfl⟩
  case round =>
    obtain ⟨k, hk, rfl⟩ := hrel
    have hlk := hl.out k
    by_cases hlt : k < n
    · rw [h1.out k hlt] at hlk
      simp only [Option.getD_some] at hlk
      go_wp2
      go_round
      case rel => exact ⟨k + 1, by omega, by go_num⟩
      case measure => simp [intOf]; omega
    · obtain rfl : k = n := by omega
      rw [h2.out] at hlk
      simp only [Option.getD_none] at hlk
      go_wp2
      go_ret
      exact ⟨rfl, rfl⟩
/-- The slots of a map of ones: those that are not free. -/
def Ones (free : List Bool) (S : List Ent) : Prop := ∀ k : Nat, val? S k = if free[k]? = some false then some (.int .i64 1) else none
/-- What holds of the marks, of the things of two arenas, and of the map of slots. -/
structure TwoS (free : List Bool) (LA LB : List AEnt) (S : List Ent) : Prop where
  ones : Ones free S
  keys : (S.map Ent.k).Nodup
  inA : ∀ e, e ∈ LA → free[e.slot]? = some false
  inB : ∀ e, e ∈ LB → free[e.slot]? = some false
  apart : ∀ e, e ∈ LA → ∀ e', e' ∈ LB → e.slot ≠ e'.slot
  ndA : (LA.map AEnt.slot).Nodup
  ndB : (LB.map AEnt.slot).Nodup
  num : LA.length + LB.length + free.count true = free.length
  len : S.length + free.count true = free.length
theorem val_snoc (S : List Ent) (k : Int) (e : Ent) : val? (S ++ [e]) k = match val? S k with | some v => some v | none => if k = e.k then some e.v else none := by
  unfold val?
  rw [List.find?_append]
  cases h : S.find? (fun e => k = e.k) with
  | some x => simp
  | none =>
    by_cases hk : k = e.k
    · simp [hk]
    · simp [hk]
theorem val_drop (S : List Ent) (k j : Int) (hn : (S.map Ent.k).Nodup) : val? (dropEnt j S) k = if k = j then none else val? S k := by
  induction S with
  | nil => simp [dropEnt, val?]
  | cons x xs ih =>
    rw [List.map_cons, List.nodup_cons] at hn
    have ih := ih hn.2
    unfold dropEnt
    by_cases hj : j = x.k
    · rw [if_pos hj]
      by_cases hk : k = j
      · rw [if_pos hk]
        unfold val?
        rw [List.find?_eq_none.2]
        · rfl
        · intro e he
          have : ¬ e.k = x.k := fun h => hn.1 (by rw [← h]; exact List.mem_map_of_mem he)
          simp
          omega
      · rw [if_neg hk]
        unfold val?
        rw [List.find?_cons]
        have : ¬ k = x.k := by omega
        simp [this]
    · rw [if_neg hj]
      unfold val? at *
      rw [List.find?_cons, List.find?_cons]
      by_cases hk : k = x.k
      · have : ¬ k = j := by omega
        simp [hk]
        omega
      · simp only [hk, decide_false]
        exact ih
theorem keys_drop (S : List Ent) (j : Int) : List.Sublist ((dropEnt j S).map Ent.k) (S.map Ent.k) := by
  induction S with
  | nil => exact List.Sublist.refl _
  | cons x xs ih =>
    unfold dropEnt
    split
    · exact List.sublist_cons_self _ _
    · exact ih.cons_cons _
theorem length_drop (S : List Ent) (j : Int) (h : (val? S j).isSome = true) : (dropEnt j S).length + 1 = S.length := by
  induction S with
  | nil => simp [val?] at h
  | cons x xs ih =>
    unfold dropEnt
    split
    · rfl
    · rename_i hj
      have : (val? xs j).isSome = true := by
        unfold val? at *
        rw [List.find?_cons] at h
        simpa [hj] using h
      simp [ih this]
theorem length_filter_slot (L : List AEnt) (x : AEnt) (hn : (L.map AEnt.slot).Nodup) (hx : x ∈ L) : (L.filter fun e => e.slot ≠ x.slot).length + 1 = L.length := by
  induction L with
  | nil => cases hx
  | cons y ys ih =>
    rw [List.map_cons, List.nodup_cons] at hn
    rw [List.filter_cons]
    rcases List.mem_cons.1 hx with rfl | hx'
    · have hf : ys.filter (fun e => e.slot ≠ x.slot) = ys := by
        rw [List.filter_eq_self]
        intro e he
        have : ¬ e.slot = x.slot := fun h => hn.1 (by rw [← h]; exact List.mem_map_of_mem he)
        simpa using this
      simp only [ne_eq, not_true, decide_false, Bool.false_eq_true, if_false]
      simp only [ne_eq] at hf
      rw [hf]
      rfl
    · have : ¬ y.slot = x.slot := fun h => hn.1 (by rw [h]; exact List.mem_map_of_mem hx')
      simp only [ne_eq, this, not_false_iff, decide_true, if_true, List.length_cons]
      have := ih hn.2 hx'
      simp only [ne_eq] at this
      omega
theorem count_set_true (free : List Bool) (i : Nat) (hi : free[i]? = some false) : (free.set i true).count true = free.count true + 1 := by
  have hlt : i < free.length := by
    rcases Nat.lt_or_ge i free.length with h1 | h1
    · exact h1
    · rw [List.getElem?_eq_none h1] at hi; cases hi
  have := List.count_set (a := true) (b := true) (l := free) hlt
  rw [List.getElem?_eq_getElem hlt] at hi
  simp at hi this
  rw [hi] at this
  simpa using this
theorem TwoS.freeA {free : List Bool} {LA LB : List AEnt} {S : List Ent} (h : TwoS free LA LB S) {x : AEnt} (hx : x ∈ LA) : TwoS (free.set x.slot true) (LA.filter fun e => e.slot ≠ x.slot) LB (dropEnt x.slot S) := by
  have hf := h.inA x hx
  have hc := count_set_true free x.slot hf
  have hl := length_filter_slot LA x h.ndA hx
  have hv : (val? S x.slot).isSome = true := by rw [h.ones x.slot, if_pos hf]; rfl
  have hd := length_drop S x.slot hv
  have hlt : x.slot < free.length := by
    rcases Nat.lt_or_ge x.slot free.length with h1 | h1
    · exact h1
    · rw [List.getElem?_eq_none h1] at hf; cases hf
  refine ⟨?_, ?_, ?_, ?_, ?_, ?_, h.ndB, ?_, ?_⟩
  · intro k
    rw [val_drop S k x.slot h.keys, h.ones k, List.getElem?_set]
    by_cases hk : x.slot = k
    · subst hk; simp [hlt]
    · have : ¬ (k : Int) = (x.slot : Int) := by omega
      rw [if_neg this, if_neg hk]
  · exact h.keys.sublist (keys_drop _ _)
  · intro e he
    obtain ⟨h1, h2⟩ := List.mem_filter.1 he
    simp only [ne_eq, decide_eq_true_eq] at h2
    rw [List.getElem?_set_ne (fun e' => h2 e'.symm)]
    exact h.inA e h1
  · intro e he
    rw [List.getElem?_set_ne (h.apart x hx e he)]
    exact h.inB e he
  · intro e he e' he'
    exact h.apart e (List.mem_filter.1 he).1 e' he'
  · exact h.ndA.sublist ((List.filter_sublist).map _)
  · have := h.num; rw [hc, List.length_set]; omega
  · have := h.len; rw [hc, List.length_set]; omega
theorem TwoS.swap {free : List Bool} {LA LB : List AEnt} {S : List Ent} (h : TwoS free LA LB S) : TwoS free LB LA S :=
  ⟨h.ones, h.keys, h.inB, h.inA, fun e he e' he' => fun hh => h.apart e' he' e he hh.symm, h.ndB, h.ndA, by have := h.num; omega, h.len⟩
theorem count_set_false' (free : List Bool) (i : Nat) (hi : i < free.length) (ht : free[i]? = some true) : (free.set i false).count true + 1 = free.count true := by
  have h1 := count_set_false free i hi ht
  omega
theorem TwoS.putA {free : List Bool} {LA LB : List AEnt} {S : List Ent} (h : TwoS free LA LB S) (hn : true ∈ free) {x : AEnt} (hx : x.slot = free.idxOf true) (c : Nat) :
    TwoS (free.set (free.idxOf true) false) (LA ++ [x]) LB (S ++ [⟨(free.idxOf true : Nat), .int .i64 1, c⟩]) := by
  have hlt : free.idxOf true < free.length := List.idxOf_lt_length_of_mem hn
  have hit : free[free.idxOf true]? = some true := by rw [List.getElem?_eq_getElem hlt]; simp
  have hc := count_set_false' free _ hlt hit
  have hnew : val? S (free.idxOf true : Nat) = none := by rw [h.ones, hit]; simp
  generalize free.idxOf true = i at *
  have hkey : ∀ e, e ∈ S → e.k ≠ (i : Int) := by
    intro e he hk
    unfold val? at hnew
    rw [Option.map_eq_none_iff, List.find?_eq_none] at hnew
    exact hnew e he (by simp [hk])
  have hA : ∀ e, e ∈ LA → e.slot ≠ i := fun e he hh => by have := h.inA e he; rw [hh, hit] at this; cases this
  have hB : ∀ e, e ∈ LB → e.slot ≠ i := fun e he hh => by have := h.inB e he; rw [hh, hit] at this; cases this
  refine ⟨?_, ?_, ?_, ?_, ?_, ?_, h.ndB, ?_, ?_⟩
  · intro k
    rw [val_snoc, h.ones k, List.getElem?_set]
    by_cases hk : i = k
    · subst hk
      rw [if_neg (show ¬ free[i]? = some false by rw [hit]; simp)]
      simp [hlt]
    · have : ¬ (k : Int) = (i : Int) := by omega
      simp only [this, if_false, hk]
      by_cases hq : free[k]? = some false <;> simp [hq]
  · rw [List.map_append, List.nodup_append]
    refine ⟨h.keys, by simp, ?_⟩
    intro a ha b hb
    obtain ⟨e, he, rfl⟩ := List.mem_map.1 ha
    simp only [List.map_cons, List.map_nil, List.mem_singleton] at hb
    rw [hb]
    exact hkey e he
  · intro e he
    rcases List.mem_append.1 he with he | he
    · rw [List.getElem?_set_ne (fun e' => hA e he e'.symm)]; exact h.inA e he
    · simp only [List.mem_singleton] at he
      rw [he, hx]; simp [hlt]
  · intro e he
    rw [List.getElem?_set_ne (fun e' => hB e he e'.symm)]; exact h.inB e he
  · intro e he e' he'
    rcases List.mem_append.1 he with he | he
    · exact h.apart e he e' he'
    · simp only [List.mem_singleton] at he
      rw [he, hx]; exact fun hh => hB e' he' hh.symm
  · rw [List.map_append, List.nodup_append]
    refine ⟨h.ndA, by simp, ?_⟩
    intro a ha b hb
    obtain ⟨e, he, rfl⟩ := List.mem_map.1 ha
    simp only [List.map_cons, List.map_nil, List.mem_singleton] at hb
    rw [hb, hx]
    exact hA e he
  · have := h.num; rw [List.length_append, List.length_set]; simp; omega
  · have := h.len; rw [List.length_append, List.length_set]; simp; omega
end Go.Proofs.Ytoknkedmpdcinaa
