/- A pool and its arenas, each block with its role: 1, 2, 3 the pool's, 10 + 3i, 11 + 3i, 12 + 3i arena i's things, its own block, its map. -/
import Derived.Test.YtmhlokomlngdmaaGreatPool
import Derived.Test.YtmhlokomlngdmaaGreatArenaG
import Derived.Test.YtmhlokomlngdmaaGreatMapRange
import Derived.Test.YtmhlokomlngdmaaGreatRoles
namespace Go.Proofs.YtmhlokomlngdmaaGreat
open Go.RowKit
structure ArD where
  ta : TypeId
  tc : TypeId
  A : AR
abbrev PBk := Option (Nat × Nat × Nat)
def paddr : PBk → Option Addr
  | none => none
  | some q => some ⟨q.1, 0, none⟩
def PoolO (w : World) (ρ : Nat → Nat) (P : PBk) (gens : List Int) (free : List Bool) : Prop := match P with
  | none => gens = [] ∧ free = []
  | some (p, g, f) => PoolIs w p g f gens free ∧ ρ p = 1 ∧ ρ g = 2 ∧ ρ f = 3
structure ArI (w : World) (ρ : Nat → Nat) (P : PBk) (free : List Bool) (i : Nat) (d : ArD) : Prop where
  g : ArenaG d.ta d.tc w [] (paddr P) d.A
  bn : Born AEnt.born d.A.L d.A.c
  ra : ρ d.A.a = 11 + 3 * i
  rm : ρ d.A.m = 12 + 3 * i
  th : ∀ e, e ∈ d.A.L → ρ e.blk = 10 + 3 * i ∧ free[e.slot]? = some false
structure Ars (w : World) (ρ : Nat → Nat) (P : PBk) (gens : List Int) (free : List Bool) (D : List ArD) : Prop where
  pool : PoolO w ρ P gens free
  ar : ∀ i d, D[i]? = some d → ArI w ρ P free i d
theorem ArenaG.withR {ta tc : TypeId} {R : List Nat} {w : World} {p : Option Addr} {A : AR} (h : ArenaG ta tc w [] p A) (hR : ∀ e, e ∈ A.L → e.blk ∉ R) : ArenaG ta tc w R p A :=
  ⟨h.1, h.2.1, h.2.2.1, h.2.2.2.1, h.2.2.2.2.1, fun e he => ⟨hR e he, (h.2.2.2.2.2 e he).2⟩⟩
theorem ArenaG.noR {ta tc : TypeId} {R : List Nat} {w : World} {p : Option Addr} {A : AR} (h : ArenaG ta tc w R p A) : ArenaG ta tc w [] p A :=
  ⟨h.1, h.2.1, h.2.2.1, h.2.2.2.1, h.2.2.2.2.1, fun e he => ⟨by simp, (h.2.2.2.2.2 e he).2⟩⟩
theorem ArenaG.ru {ta tc : TypeId} {rs : List Nat} {w w' : World} {ρ ρ' : Nat → Nat} {p : Option Addr} {A : AR} (h : ArenaG ta tc w [] p A) (hu : RU rs w w' ρ ρ') (ha : ρ A.a ∉ rs) (hm : ρ A.m ∉ rs) (ht : ∀ e, e ∈ A.L → ρ e.blk ∉ rs) : ArenaG ta tc w' [] p A :=
  ⟨h.1, hu.heap h.2.1 ha, hu.heap h.2.2.1 hm, h.2.2.2.1, h.2.2.2.2.1, fun e he => ⟨by simp, hu.heap (h.2.2.2.2.2 e he).2 (ht e he)⟩⟩
section
variable {w0 w w' : World} {ρ ρ' : Nat → Nat} {P : PBk} {gens gens' : List Int} {free free' : List Bool} {D : List ArD} {rs : List Nat} {i : Nat} {d : ArD}
theorem ArI.lts (h : ArI w ρ P free i d) : d.A.a < w.heap.size ∧ d.A.m < w.heap.size ∧ ∀ e, e ∈ d.A.L → e.blk < w.heap.size :=
  ⟨heap_lt h.g.2.1, heap_lt h.g.2.2.1, fun e he => heap_lt (h.g.2.2.2.2.2 e he).2⟩
/-- An arena whose blocks are left, though marks of its slots may turn. -/
theorem ArI.ru (h : ArI w ρ P free i d) (hu : RU rs w w' ρ ρ') (h1 : 10 + 3 * i ∉ rs) (h2 : 11 + 3 * i ∉ rs) (h3 : 12 + 3 * i ∉ rs) (hf : ∀ e, e ∈ d.A.L → free'[e.slot]? = some false) : ArI w' ρ' P free' i d := by
  obtain ⟨l1, l2, l3⟩ := h.lts
  exact ⟨h.g.ru hu (by rw [h.ra]; exact h2) (by rw [h.rm]; exact h3) (fun e he => by rw [(h.th e he).1]; exact h1), h.bn, by rw [hu.role _ l1]; exact h.ra, by rw [hu.role _ l2]; exact h.rm, fun e he => ⟨by rw [hu.role _ (l3 e he)]; exact (h.th e he).1, hf e he⟩⟩
theorem PoolO.ru (h : PoolO w ρ P gens free) (hu : RU rs w w' ρ ρ') (h1 : 1 ∉ rs) (h2 : 2 ∉ rs) (h3 : 3 ∉ rs) : PoolO w' ρ' P gens free := by
  match P, h with
  | none, h => exact h
  | some (p, g, f), ⟨⟨a1, a2, a3, a4, a5, a6, a7, a8⟩, r1, r2, r3⟩ => exact ⟨⟨a1, a2, a3, a4, a5, hu.heap a6 (by rw [r1]; exact h1), hu.heap a7 (by rw [r2]; exact h2), hu.heap a8 (by rw [r3]; exact h3)⟩, by rw [hu.role _ (heap_lt a6)]; exact r1, by rw [hu.role _ (heap_lt a7)]; exact r2, by rw [hu.role _ (heap_lt a8)]; exact r3⟩
/-- A step that writes none of the pool's and the arenas' blocks. -/
theorem Ars.ru (h : Ars w ρ P gens free D) (hu : RU rs w w' ρ ρ') (hr : ∀ r, r ∈ rs → 4 ≤ r ∧ r ≤ 9) : Ars w' ρ' P gens free D := by
  have hn : ∀ r, r ≤ 3 ∨ 10 ≤ r → r ∉ rs := fun r h1 h2 => by have := hr r h2; omega
  refine ⟨h.pool.ru hu (hn _ (by omega)) (hn _ (by omega)) (hn _ (by omega)), fun i d hd => ?_⟩
  have := h.ar i d hd
  exact this.ru hu (hn _ (by omega)) (hn _ (by omega)) (hn _ (by omega)) (fun e he => (this.th e he).2)
theorem Ars.below (h : Ars w ρ P gens free D) (ho : Ro w0 w ρ) (hb : Below w.heap.size w w') : Ars w' ρ P gens free D := h.ru (rs := []) (RU.below ho hb) (by simp)
/-- What arena i's functions ask. -/
theorem Ars.neq {p g f : Nat} (h : Ars w ρ (some (p, g, f)) gens free D) (hd : D[i]? = some d) : d.A.a ≠ p ∧ d.A.a ≠ f ∧ d.A.a ≠ g ∧ d.A.m ≠ p ∧ d.A.m ≠ f ∧ d.A.m ≠ g := by
  obtain ⟨_, r1, r2, r3⟩ := h.pool
  have := h.ar i d hd
  refine ⟨ne_role (ρ := ρ) ?_, ne_role (ρ := ρ) ?_, ne_role (ρ := ρ) ?_, ne_role (ρ := ρ) ?_, ne_role (ρ := ρ) ?_, ne_role (ρ := ρ) ?_⟩
  · rw [this.ra, r1]; omega
  · rw [this.ra, r3]; omega
  · rw [this.ra, r2]; omega
  · rw [this.rm, r1]; omega
  · rw [this.rm, r3]; omega
  · rw [this.rm, r2]; omega
theorem Ars.gR {p g f : Nat} (h : Ars w ρ (some (p, g, f)) gens free D) (hd : D[i]? = some d) : ArenaG d.ta d.tc w [p, g, f, d.A.m] (some ⟨p, 0, none⟩) d.A := by
  obtain ⟨_, r1, r2, r3⟩ := h.pool
  have := h.ar i d hd
  refine this.g.withR (fun e he hh => ?_)
  have h1 := (this.th e he).1
  simp only [List.mem_cons, List.not_mem_nil, or_false] at hh
  rcases hh with hh | hh | hh | hh
  · rw [hh, r1] at h1; omega
  · rw [hh, r2] at h1; omega
  · rw [hh, r3] at h1; omega
  · rw [hh, this.rm] at h1; omega
theorem Ars.pR {p g f : Nat} (h : Ars w ρ (some (p, g, f)) gens free D) (hd : D[i]? = some d) : ∀ k, k ∈ [p, g, f, d.A.m] → ρ k ∈ [1, 2, 3, 12 + 3 * i] := by
  obtain ⟨_, r1, r2, r3⟩ := h.pool
  have := h.ar i d hd
  intro k hk
  simp only [List.mem_cons, List.not_mem_nil, or_false] at hk ⊢
  rcases hk with rfl | rfl | rfl | rfl
  · exact .inl r1
  · exact .inr (.inl r2)
  · exact .inr (.inr (.inl r3))
  · exact .inr (.inr (.inr this.rm))
theorem get_set {α : Type} {D : List α} {i j : Nat} {d d' : α} (h : (D.set i d)[j]? = some d') : (i = j ∧ d' = d) ∨ (i ≠ j ∧ D[j]? = some d') := by
  rw [List.getElem?_set] at h
  by_cases hij : i = j
  · rw [if_pos hij] at h
    split at h
    · injection h with h; exact .inl ⟨hij, h.symm⟩
    · cases h
  · rw [if_neg hij] at h
    exact .inr ⟨hij, h⟩
theorem idx_set' {free : List Bool} {s : Nat} (h : free[s]? = some false) (hn : true ∈ free) : (free.set (free.idxOf true) false)[s]? = some false := by
  rw [List.getElem?_set]
  split
  · rename_i he
    rw [if_pos (List.idxOf_lt_length_of_mem hn)]
  · exact h
theorem idx_ne' {free : List Bool} {s : Nat} (h : free[s]? = some false) (hn : true ∈ free) : s ≠ free.idxOf true := by
  intro he
  have i1 := List.idxOf_lt_length_of_mem hn
  have i2 : free[free.idxOf true]? = some true := by rw [List.getElem?_eq_getElem i1, List.getElem_idxOf]
  rw [he, i2] at h
  cases h
/-- A thing is put into arena i. -/
theorem Ars.alloc {p g f b : Nat} {xs : List Value} (h : Ars w ρ (some (p, g, f)) gens free D) (ho : Ro w0 w ρ) (hd : D[i]? = some d) (hn : true ∈ free)
    (hu : Upd [p, f, d.A.m] w w') (hp : PoolIs w' p g f gens (free.set (free.idxOf true) false)) (hb : w.heap.size ≤ b)
    (hA : ArenaG d.ta d.tc w' [p, g, f, d.A.m] (some ⟨p, 0, none⟩) { d.A with L := d.A.L ++ [⟨free.idxOf true, gens.getD (free.idxOf true) 0, b, xs, d.A.c⟩], c := d.A.c + 1 }) :
    Ars w' (mark ρ b (10 + 3 * i)) (some (p, g, f)) gens (free.set (free.idxOf true) false) (D.set i { d with A := { d.A with L := d.A.L ++ [⟨free.idxOf true, gens.getD (free.idxOf true) 0, b, xs, d.A.c⟩], c := d.A.c + 1 } }) ∧ RU [1, 2, 3, 12 + 3 * i] w w' ρ (mark ρ b (10 + 3 * i)) := by
  have hb1 : b < w'.heap.size := heap_lt (hA.2.2.2.2.2 ⟨free.idxOf true, gens.getD (free.idxOf true) 0, b, xs, d.A.c⟩ (by simp)).2
  have hU : RU [1, 2, 3, 12 + 3 * i] w w' ρ (mark ρ b (10 + 3 * i)) := (RU.upd ho hu (fun k hk _ => h.pR hd k (by simp at hk ⊢; rcases hk with hk | hk | hk <;> simp [hk]))).mark hb hb1
  have hi := h.ar i d hd
  obtain ⟨l1, l2, l3⟩ := hi.lts
  obtain ⟨hpw, r1, r2, r3⟩ := h.pool
  refine ⟨⟨⟨hp, ?_, ?_, ?_⟩, fun j d' hd' => ?_⟩, hU⟩
  · rw [hU.role _ (heap_lt hpw.2.2.2.2.2.1)]; exact r1
  · rw [hU.role _ (heap_lt hpw.2.2.2.2.2.2.1)]; exact r2
  · rw [hU.role _ (heap_lt hpw.2.2.2.2.2.2.2)]; exact r3
  · rcases get_set hd' with ⟨rfl, rfl⟩ | ⟨hij, hd'⟩
    · refine ⟨hA.noR, hi.bn.snoc _ rfl, by rw [hU.role _ l1]; exact hi.ra, by rw [hU.role _ l2]; exact hi.rm, fun e he => ?_⟩
      rcases List.mem_append.1 he with he | he
      · exact ⟨by rw [hU.role _ (l3 e he)]; exact (hi.th e he).1, idx_set' (hi.th e he).2 hn⟩
      · simp at he; subst he
        refine ⟨mark_self, ?_⟩
        show (free.set (free.idxOf true) false)[free.idxOf true]? = some false
        rw [List.getElem?_set, if_pos rfl, if_pos (List.idxOf_lt_length_of_mem hn)]
    · have := h.ar j d' hd'
      exact this.ru hU (by simp; omega) (by simp; omega) (by simp; omega) (fun e he => idx_set' (this.th e he).2 hn)
/-- A thing of arena i is released. -/
theorem Ars.release {p g f : Nat} {x : AEnt} (h : Ars w ρ (some (p, g, f)) gens free D) (ho : Ro w0 w ρ) (hd : D[i]? = some d) (_hx : x ∈ d.A.L) (hsep : ∀ j d' e, j ≠ i → D[j]? = some d' → e ∈ d'.A.L → e.slot ≠ x.slot)
    (hu : Upd [p, g, f, d.A.m] w w') (hp : PoolIs w' p g f gens' (free.set x.slot true)) (hA : ArenaG d.ta d.tc w' [p, g, f, d.A.m] (some ⟨p, 0, none⟩) { d.A with L := d.A.L.filter fun e => e.slot ≠ x.slot }) :
    Ars w' ρ (some (p, g, f)) gens' (free.set x.slot true) (D.set i { d with A := { d.A with L := d.A.L.filter fun e => e.slot ≠ x.slot } }) ∧ RU [1, 2, 3, 12 + 3 * i] w w' ρ ρ := by
  have hU : RU [1, 2, 3, 12 + 3 * i] w w' ρ ρ := RU.upd ho hu (fun k hk _ => h.pR hd k hk)
  have hi := h.ar i d hd
  obtain ⟨hpw, r1, r2, r3⟩ := h.pool
  have hset : ∀ s : Nat, s ≠ x.slot → free[s]? = some false → (free.set x.slot true)[s]? = some false := fun s hs hf => by
    rw [List.getElem?_set, if_neg (fun e => hs e.symm)]; exact hf
  refine ⟨⟨⟨hp, r1, r2, r3⟩, fun j d' hd' => ?_⟩, hU⟩
  rcases get_set hd' with ⟨rfl, rfl⟩ | ⟨hij, hd'⟩
  · refine ⟨hA.noR, hi.bn.filter _, hi.ra, hi.rm, fun e he => ?_⟩
    have he' := List.mem_filter.1 he
    exact ⟨(hi.th e he'.1).1, hset _ (by simpa using he'.2) (hi.th e he'.1).2⟩
  · have := h.ar j d' hd'
    exact this.ru hU (by simp; omega) (by simp; omega) (by simp; omega) (fun e he => hset _ (hsep j d' e (fun hh => hij hh.symm) hd' he) (this.th e he).2)
/-- Something is written where a thing of arena i stands. -/
theorem Ars.write {x : AEnt} {xs : List Value} (h : Ars w ρ P gens free D) (ho : Ro w0 w ρ) (hd : D[i]? = some d) (hx : x ∈ d.A.L)
    (hu : Upd [x.blk] w w') (hb : w'.heap[x.blk]? = some (.cells (.int .u64 x.gen :: xs).toArray d.tc)) :
    Ars w' ρ P gens free (D.set i { d with A := { d.A with L := d.A.L.map fun e => if e.slot = x.slot then { e with xs := xs } else e } }) ∧ RU [10 + 3 * i] w w' ρ ρ := by
  have hi := h.ar i d hd
  have hU : RU [10 + 3 * i] w w' ρ ρ := RU.upd ho hu (fun k hk _ => by simp at hk; subst hk; simp [(hi.th x hx).1])
  obtain ⟨g1, g2, g3, g4, g5, g6⟩ := hi.g
  have huniq : ∀ e, e ∈ d.A.L → e.slot = x.slot → e = x := fun e he hs => by
    rcases List.mem_iff_getElem?.1 he with ⟨j, hj⟩
    rcases List.mem_iff_getElem?.1 hx with ⟨k, hk⟩
    have h1 : (d.A.L.map AEnt.slot)[j]? = some x.slot := by rw [List.getElem?_map, hj]; simp [hs]
    have h2 : (d.A.L.map AEnt.slot)[k]? = some x.slot := by rw [List.getElem?_map, hk]; rfl
    have := (List.getElem?_inj (List.getElem?_eq_some_iff.1 h1).1 g4).1 (h1.trans h2.symm)
    subst this
    rw [hj] at hk
    injection hk
  have hslots : ((d.A.L.map fun e => if e.slot = x.slot then { e with xs := xs } else e).map AEnt.slot) = d.A.L.map AEnt.slot := by
    rw [List.map_map]
    refine List.map_congr_left fun e _ => ?_
    simp only [Function.comp]
    split <;> rfl
  have hblks : ((d.A.L.map fun e => if e.slot = x.slot then { e with xs := xs } else e).map AEnt.blk) = d.A.L.map AEnt.blk := by
    rw [List.map_map]
    refine List.map_congr_left fun e _ => ?_
    simp only [Function.comp]
    split <;> rfl
  have hborn : ((d.A.L.map fun e => if e.slot = x.slot then { e with xs := xs } else e).map AEnt.born) = d.A.L.map AEnt.born := by
    rw [List.map_map]
    refine List.map_congr_left fun e _ => ?_
    simp only [Function.comp]
    split <;> rfl
  have hents : ((d.A.L.map fun e => if e.slot = x.slot then { e with xs := xs } else e).map AEnt.ent) = d.A.L.map AEnt.ent := by
    rw [List.map_map]
    refine List.map_congr_left fun e _ => ?_
    simp only [Function.comp]
    split <;> rfl
  refine ⟨⟨h.pool.ru hU (by simp; omega) (by simp; omega) (by simp; omega), fun j d' hd' => ?_⟩, hU⟩
  rcases get_set hd' with ⟨rfl, rfl⟩ | ⟨hij, hd'⟩
  · refine ⟨⟨g1, hU.heap g2 (by rw [hi.ra]; simp), by rw [hents]; exact hU.heap g3 (by rw [hi.rm]; simp), by rw [hslots]; exact g4, by rw [hblks]; exact g5, fun e he => ⟨by simp, ?_⟩⟩, ⟨by rw [hborn]; exact hi.bn.1, fun e he => ?_⟩, hi.ra, hi.rm, fun e he => ?_⟩
    · obtain ⟨e0, he0, rfl⟩ := List.mem_map.1 he
      split
      · rename_i hs
        rw [huniq e0 he0 hs]
        exact hb
      · rename_i hs
        refine hu.heap (g6 e0 he0).2 (fun hh => ?_)
        simp at hh
        rcases List.mem_iff_getElem?.1 he0 with ⟨j, hj⟩
        rcases List.mem_iff_getElem?.1 hx with ⟨k, hk⟩
        have h1 : (d.A.L.map AEnt.blk)[j]? = some x.blk := by rw [List.getElem?_map, hj]; simp [hh]
        have h2 : (d.A.L.map AEnt.blk)[k]? = some x.blk := by rw [List.getElem?_map, hk]; rfl
        have := (List.getElem?_inj (List.getElem?_eq_some_iff.1 h1).1 g5).1 (h1.trans h2.symm)
        subst this
        rw [hj] at hk
        injection hk with hk
        exact hs (by rw [hk])
    · obtain ⟨e0, he0, rfl⟩ := List.mem_map.1 he
      have := hi.bn.2 e0 he0
      split <;> exact this
    · obtain ⟨e0, he0, rfl⟩ := List.mem_map.1 he
      have := hi.th e0 he0
      split <;> exact this
  · have := h.ar j d' hd'
    exact this.ru hU (by simp; omega) (by simp; omega) (by simp; omega) (fun e he => (this.th e he).2)
/-- A new arena. -/
theorem Ars.new (h : Ars w ρ P gens free D) (ho : Ro w0 w ρ) (hb : Below w.heap.size w w') (hs : w'.heap.size = w.heap.size + 2) {ta tc : TypeId} (hA : ArenaG ta tc w' [] (paddr P) ⟨w.heap.size + 1, w.heap.size, [], 0⟩) :
    Ars w' (mark (mark ρ (w.heap.size + 1) (11 + 3 * D.length)) w.heap.size (12 + 3 * D.length)) P gens free (D ++ [⟨ta, tc, ⟨w.heap.size + 1, w.heap.size, [], 0⟩⟩]) ∧
      RU [] w w' ρ (mark (mark ρ (w.heap.size + 1) (11 + 3 * D.length)) w.heap.size (12 + 3 * D.length)) := by
  have hU : RU [] w w' ρ (mark (mark ρ (w.heap.size + 1) (11 + 3 * D.length)) w.heap.size (12 + 3 * D.length)) := ((RU.below ho hb).mark (by omega) (by omega)).mark (Nat.le_refl _) (by omega)
  have h1 := h.ru hU (by simp)
  refine ⟨⟨h1.pool, fun j d' hd' => ?_⟩, hU⟩
  by_cases hj : j < D.length
  · rw [List.getElem?_append_left hj] at hd'
    exact h1.ar j d' hd'
  · rw [List.getElem?_append_right (by omega)] at hd'
    rcases hk : j - D.length with _ | k
    · rw [hk] at hd'
      simp at hd'
      subst hd'
      have hjl : j = D.length := by omega
      subst hjl
      exact ⟨hA, Born.nil _ _, by rw [mark_other (by show w.heap.size + 1 ≠ _; omega)]; exact mark_self, mark_self, by simp⟩
    · rw [hk] at hd'; simp at hd'
end
end Go.Proofs.YtmhlokomlngdmaaGreat
