/- The plain state of the law ArenaHandles: who is on, who is gone; no world in sight. -/
import Derived.Test.YtoknkedmpdcinaaArenaStands
namespace Go.Proofs.Ytoknkedmpdcinaa
open Go.RowKit
def Match (x : HEnt) (e : AEnt) : Prop := e.slot = x.slot ∧ e.gen = x.gen ∧ e.xs = [.string x.s]
/-- One arena's things are those that are on with its number. -/
structure Side (on : List HEnt) (k : Nat) (L : List AEnt) : Prop where
  back : ∀ e, e ∈ L → ∃ x, x ∈ on ∧ x.inn = k ∧ Match x e
  fwd : ∀ x, x ∈ on → x.inn = k → ∃ e, e ∈ L ∧ Match x e
structure Plain (n t : Nat) (on gone : List HEnt) (gens : List Int) (free : List Bool) (LA LC : List AEnt) : Prop where
  lf : free.length = n
  lg : gens.length = n
  nd : (on.map HEnt.slot).Nodup
  busy : ∀ x, x ∈ on → free[x.slot]? = some false
  gen : ∀ x, x ∈ on → gens[x.slot]? = some x.gen
  cnt : free.count true + on.length = n
  num : LA.length + LC.length = on.length
  inn : ∀ x, x ∈ on → x.inn = 0 ∨ x.inn = 1
  sA : Side on 0 LA
  sC : Side on 1 LC
  out : ∀ x, x ∈ gone → ∃ v : Int, gens[x.slot]? = some v ∧ x.gen < v
  rng : ∀ (k : Nat) (v : Int), gens[k]? = some v → 1 ≤ v ∧ v ≤ t + 1
theorem eq_of_slot {on : List HEnt} (hn : (on.map HEnt.slot).Nodup) {x y : HEnt} (hx : x ∈ on) (hy : y ∈ on) (h : x.slot = y.slot) : x = y := by
  obtain ⟨i, hi, hxe⟩ := List.mem_iff_getElem.1 hx
  obtain ⟨j, hj, hye⟩ := List.mem_iff_getElem.1 hy
  have := (List.getElem?_inj (i := i) (j := j) (by simpa using hi) hn).1 (by rw [List.getElem?_map, List.getElem?_map, List.getElem?_eq_getElem hi, List.getElem?_eq_getElem hj, hxe, hye]; simp [h])
  subst this
  exact hxe.symm.trans hye
theorem Plain.std {n t : Nat} {on gone : List HEnt} {gens : List Int} {free : List Bool} {LA LC : List AEnt} (h : Plain n t on gone gens free LA LC) : Std LA LC on gone := by
  have dead : ∀ {k : Nat} {L : List AEnt} {x : HEnt}, Side on k L → x ∈ on → x.inn ≠ k → Dead L x := by
    intro k L x hs hx hk e he hh
    obtain ⟨y, hy, hyk, hm⟩ := hs.back e he
    have : x = y := eq_of_slot h.nd hx hy (by have := hm.1; omega)
    subst this
    exact hk hyk
  have lives : ∀ {k : Nat} {L : List AEnt} {x : HEnt}, Side on k L → x ∈ on → x.inn = k → Lives L x := by
    intro k L x hs hx hk
    obtain ⟨e, he, hm⟩ := hs.fwd x hx hk
    exact ⟨e, he, by have := hm.1; omega, hm.2.1, hm.2.2⟩
  have gone' : ∀ {k : Nat} {L : List AEnt} {x : HEnt}, Side on k L → x ∈ gone → Dead L x := by
    intro k L x hs hx e he hh
    obtain ⟨y, hy, _, hm⟩ := hs.back e he
    obtain ⟨v, hv, hlt⟩ := h.out x hx
    have h1 := h.gen y hy
    have h2 : y.slot = x.slot := by have := hm.1; omega
    rw [h2, hv] at h1
    have := hm.2.1
    have := hh.2
    injection h1 with h1
    omega
  refine ⟨fun x hx => ?_, h.nd, fun x hx => ⟨gone' h.sA hx, gone' h.sC hx⟩⟩
  rcases h.inn x hx with hi | hi
  · exact .inl ⟨hi, lives h.sA hx hi, dead h.sC hx (by omega)⟩
  · exact .inr ⟨hi, dead h.sA hx (by omega), lives h.sC hx hi⟩
theorem Side.other {on : List HEnt} {k : Nat} {L : List AEnt} (h : Side on k L) (x : HEnt) (hx : x.inn ≠ k) : Side (on ++ [x]) k L :=
  ⟨fun e he => by obtain ⟨y, hy, h1, h2⟩ := h.back e he; exact ⟨y, List.mem_append_left _ hy, h1, h2⟩,
   fun y hy hk => by
    rcases List.mem_append.1 hy with h1 | h1
    · exact h.fwd y h1 hk
    · obtain rfl := List.mem_singleton.1 h1
      exact absurd hk hx⟩
theorem Side.snoc {on : List HEnt} {k : Nat} {L : List AEnt} (h : Side on k L) (x : HEnt) (e : AEnt) (hx : x.inn = k) (hm : Match x e) : Side (on ++ [x]) k (L ++ [e]) := by
  refine ⟨fun e' he => ?_, fun y hy hk => ?_⟩
  · rcases List.mem_append.1 he with h1 | h1
    · obtain ⟨y, hy, h2, h3⟩ := h.back e' h1
      exact ⟨y, List.mem_append_left _ hy, h2, h3⟩
    · obtain rfl := List.mem_singleton.1 h1
      exact ⟨x, by simp, hx, hm⟩
  · rcases List.mem_append.1 hy with h1 | h1
    · obtain ⟨e', he, h2⟩ := h.fwd y h1 hk
      exact ⟨e', List.mem_append_left _ he, h2⟩
    · obtain rfl := List.mem_singleton.1 h1
      exact ⟨e, by simp, hm⟩
theorem Plain.put {n t : Nat} {on gone : List HEnt} {gens : List Int} {free : List Bool} {LA LC LA' LC' : List AEnt} (h : Plain n t on gone gens free LA LC) (hn : true ∈ free) (x : HEnt) (hs : x.slot = free.idxOf true) (hg : x.gen = gens.getD (free.idxOf true) 0) (hi : x.inn = 0 ∨ x.inn = 1)
    (hA : Side (on ++ [x]) 0 LA') (hC : Side (on ++ [x]) 1 LC') (hl : LA'.length + LC'.length = LA.length + LC.length + 1) : Plain n (t + 1) (on ++ [x]) gone gens (free.set (free.idxOf true) false) LA' LC' := by
  have i1 := List.idxOf_lt_length_of_mem hn
  have i2 : free[free.idxOf true]? = some true := by rw [List.getElem?_eq_getElem i1, List.getElem_idxOf]
  have hgx : gens[x.slot]? = some x.gen := by
    have : free.idxOf true < gens.length := by rw [h.lg, ← h.lf]; exact i1
    rw [hs, hg, List.getElem?_eq_getElem this]
    simp [List.getD, this]
  have hcs := count_set_false' free _ i1 i2
  have hne : ∀ y, y ∈ on → y.slot ≠ x.slot := by
    intro y hy he
    have := h.busy y hy
    rw [he, hs, i2] at this
    cases this
  refine ⟨by rw [List.length_set]; exact h.lf, h.lg, ?_, ?_, ?_, ?_, ?_, ?_, hA, hC, h.out, fun k v hk => ?_⟩
  · rw [List.map_append, List.nodup_append]
    refine ⟨h.nd, by simp, fun a ha b hb he => ?_⟩
    obtain ⟨y, hy, rfl⟩ := List.mem_map.1 ha
    simp at hb
    exact hne y hy (he.trans hb)
  · intro y hy
    rcases List.mem_append.1 hy with h1 | h1
    · have := hne y h1
      rw [List.getElem?_set_ne (by omega)]
      exact h.busy y h1
    · obtain rfl := List.mem_singleton.1 h1
      rw [hs, List.getElem?_set_self i1]
  · intro y hy
    rcases List.mem_append.1 hy with h1 | h1
    · exact h.gen y h1
    · obtain rfl := List.mem_singleton.1 h1
      exact hgx
  · have := h.cnt
    rw [List.length_append]
    simp
    omega
  · have := h.num
    rw [List.length_append]
    simp
    omega
  · intro y hy
    rcases List.mem_append.1 hy with h1 | h1
    · exact h.inn y h1
    · obtain rfl := List.mem_singleton.1 h1
      exact hi
  · have := h.rng k v hk
    omega
theorem Side.drop {l r : List HEnt} {x : HEnt} {k : Nat} {L : List AEnt} (h : Side (l ++ x :: r) k L) (hn : ((l ++ x :: r).map HEnt.slot).Nodup) : Side (l ++ r) k (if x.inn = k then L.filter fun e => decide (e.slot ≠ x.slot) else L) := by
  have hmem : ∀ y, y ∈ l ++ r → y ∈ l ++ x :: r ∧ y.slot ≠ x.slot := by
    intro y hy
    refine ⟨?_, fun he => ?_⟩
    · rcases List.mem_append.1 hy with h1 | h1
      · exact List.mem_append_left _ h1
      · exact List.mem_append_right _ (List.mem_cons_of_mem _ h1)
    · rw [List.map_append, List.map_cons] at hn
      refine nodup_out hn (t := [x.slot]) ?_ (by simp)
      intro q hq
      obtain rfl := List.mem_singleton.1 hq
      rcases List.mem_append.1 hy with h1 | h1
      · exact .inl (he ▸ List.mem_map_of_mem h1)
      · exact .inr (he ▸ List.mem_map_of_mem h1)
  have hback : ∀ y, y ∈ l ++ x :: r → y.slot ≠ x.slot → y ∈ l ++ r := by
    intro y hy hne
    rcases List.mem_append.1 hy with h1 | h1
    · exact List.mem_append_left _ h1
    · rcases List.mem_cons.1 h1 with h2 | h2
      · exact absurd (congrArg HEnt.slot h2) hne
      · exact List.mem_append_right _ h2
  by_cases hk : x.inn = k
  · rw [if_pos hk]
    refine ⟨fun e he => ?_, fun y hy hyk => ?_⟩
    · obtain ⟨h1, h2⟩ := List.mem_filter.1 he
      obtain ⟨y, hy, hyk, hm⟩ := h.back e h1
      exact ⟨y, hback y hy (by have := hm.1; simp at h2; omega), hyk, hm⟩
    · obtain ⟨h1, h2⟩ := hmem y hy
      obtain ⟨e, he, hm⟩ := h.fwd y h1 hyk
      exact ⟨e, List.mem_filter.2 ⟨he, by have := hm.1; simp; omega⟩, hm⟩
  · rw [if_neg hk]
    refine ⟨fun e he => ?_, fun y hy hyk => h.fwd y (hmem y hy).1 hyk⟩
    obtain ⟨y, hy, hyk, hm⟩ := h.back e he
    refine ⟨y, hback y hy fun hs => hk ?_, hyk, hm⟩
    have := eq_of_slot hn hy (show x ∈ l ++ x :: r by simp) hs
    rw [← this]
    exact hyk
theorem Plain.drop {n t : Nat} {l r gone : List HEnt} {x : HEnt} {gens : List Int} {free : List Bool} {LA LC LA' LC' : List AEnt} (h : Plain n t (l ++ x :: r) gone gens free LA LC)
    (hA : Side (l ++ r) 0 LA') (hC : Side (l ++ r) 1 LC') (hl : LA'.length + LC'.length + 1 = LA.length + LC.length) : Plain n (t + 1) (l ++ r) (gone ++ [x]) (gens.set x.slot (gens.getD x.slot 0 + 1)) (free.set x.slot true) LA' LC' := by
  have hmem : ∀ y, y ∈ l ++ r → y ∈ l ++ x :: r ∧ y.slot ≠ x.slot := by
    have hn := h.nd
    intro y hy
    refine ⟨?_, fun he => ?_⟩
    · rcases List.mem_append.1 hy with h1 | h1
      · exact List.mem_append_left _ h1
      · exact List.mem_append_right _ (List.mem_cons_of_mem _ h1)
    · rw [List.map_append, List.map_cons] at hn
      refine nodup_out hn (t := [x.slot]) ?_ (by simp)
      intro q hq
      obtain rfl := List.mem_singleton.1 hq
      rcases List.mem_append.1 hy with h1 | h1
      · exact .inl (he ▸ List.mem_map_of_mem h1)
      · exact .inr (he ▸ List.mem_map_of_mem h1)
  have hx : x ∈ l ++ x :: r := by simp
  have hgx := h.gen x hx
  have hgd : gens.getD x.slot 0 = x.gen := by simp [List.getD, hgx]
  have hlt : x.slot < gens.length := by
    rcases Nat.lt_or_ge x.slot gens.length with h1 | h1
    · exact h1
    · rw [List.getElem?_eq_none h1] at hgx; cases hgx
  have hcs := count_set_true free x.slot (h.busy x hx)
  refine ⟨by rw [List.length_set]; exact h.lf, by rw [List.length_set]; exact h.lg, ?_, ?_, ?_, ?_, ?_, fun y hy => h.inn y (hmem y hy).1, hA, hC, ?_, ?_⟩
  · refine List.Nodup.sublist ?_ h.nd
    rw [List.map_append, List.map_append, List.map_cons]
    exact List.Sublist.append (List.Sublist.refl _) (List.sublist_cons_self _ _)
  · intro y hy
    have := (hmem y hy).2
    rw [List.getElem?_set_ne (by omega)]
    exact h.busy y (hmem y hy).1
  · intro y hy
    have := (hmem y hy).2
    rw [List.getElem?_set_ne (by omega)]
    exact h.gen y (hmem y hy).1
  · have := h.cnt
    simp only [List.length_append, List.length_cons] at this ⊢
    omega
  · have := h.num
    simp only [List.length_append, List.length_cons] at this ⊢
    omega
  · intro y hy
    rcases List.mem_append.1 hy with h1 | h1
    · obtain ⟨v, hv, hlv⟩ := h.out y h1
      by_cases he : y.slot = x.slot
      · rw [he] at hv ⊢
        rw [hgx] at hv
        injection hv with hv
        exact ⟨_, List.getElem?_set_self hlt, by rw [hgd]; omega⟩
      · exact ⟨v, by rw [List.getElem?_set_ne (by omega)]; exact hv, hlv⟩
    · obtain rfl := List.mem_singleton.1 h1
      exact ⟨_, List.getElem?_set_self hlt, by rw [hgd]; omega⟩
  · intro k v hk
    have hr := h.rng x.slot x.gen hgx
    by_cases he : k = x.slot
    · subst he
      rw [List.getElem?_set_self hlt, hgd] at hk
      injection hk with hk
      omega
    · rw [List.getElem?_set_ne (by omega)] at hk
      have := h.rng k v hk
      omega
end Go.Proofs.Ytoknkedmpdcinaa
