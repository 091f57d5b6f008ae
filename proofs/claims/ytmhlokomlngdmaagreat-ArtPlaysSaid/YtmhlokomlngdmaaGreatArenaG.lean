/- An arena in memory with what stands in it, whatever its type; no function of the program in sight. -/
import Derived.Test.YtmhlokomlngdmaaGreatMaps
namespace Go.Proofs.YtmhlokomlngdmaaGreat
open Go.RowKit
/-- A thing of an arena: its slot, its generation, the block in which it stands, its cells, when its entry was born. -/
structure AEnt where
  slot : Nat
  gen : Int
  blk : Nat
  xs : List Value
  born : Nat
def AEnt.ent (e : AEnt) : Ent := ⟨e.slot, .pointer (some ⟨e.blk, 0, none⟩), e.born⟩
structure AR where
  a : Nat
  m : Nat
  L : List AEnt
  c : Nat
/-- ta: the arena's type; tc: its cells' type; R: blocks that are no thing's; p: its pool. -/
def ArenaG (ta tc : TypeId) (w : World) (R : List Nat) (p : Option Addr) (A : AR) : Prop :=
  A.a ≠ A.m ∧ w.heap[A.a]? = some (.cells #[.pointer p, .map (some A.m)] ta) ∧ w.heap[A.m]? = some (.map (ents (A.L.map AEnt.ent)) A.c) ∧
  (A.L.map AEnt.slot).Nodup ∧ (A.L.map AEnt.blk).Nodup ∧ ∀ e, e ∈ A.L → e.blk ∉ R ∧ w.heap[e.blk]? = some (.cells (.int .u64 e.gen :: e.xs).toArray tc)
theorem ArenaG.upd {ta tc : TypeId} {S R : List Nat} {w w' : World} {p : Option Addr} {A : AR} (h : ArenaG ta tc w R p A) (hu : Upd S w w') (hS : ∀ k, k ∈ S → k ∈ R) (ha : A.a ∉ S) (hm : A.m ∉ S) : ArenaG ta tc w' R p A :=
  ⟨h.1, hu.heap h.2.1 ha, hu.heap h.2.2.1 hm, h.2.2.2.1, h.2.2.2.2.1, fun e he => ⟨(h.2.2.2.2.2 e he).1, hu.heap (h.2.2.2.2.2 e he).2 (fun hk => (h.2.2.2.2.2 e he).1 (hS _ hk))⟩⟩
theorem ArenaG.below {ta tc : TypeId} {R : List Nat} {w w' : World} {p : Option Addr} {A : AR} (h : ArenaG ta tc w R p A) (hb : Below w.heap.size w w') : ArenaG ta tc w' R p A :=
  h.upd (Upd.of_below (S := []) hb) (by simp) (by simp) (by simp)
theorem val_ents (L : List AEnt) (s : Int) : val? (L.map AEnt.ent) s = (L.find? fun e => s = (e.slot : Int)).map fun e => Value.pointer (some ⟨e.blk, 0, none⟩) := by
  unfold val?
  rw [List.find?_map, Option.map_map]
  rfl
theorem find_none_of {L : List AEnt} {s : Int} (h : ∀ e, e ∈ L → ¬ s = (e.slot : Int)) : val? (L.map AEnt.ent) s = none := by
  rw [val_ents, List.find?_eq_none.2 (fun e he => by simpa using h e he)]
  rfl
theorem find_some_of {L : List AEnt} {s : Int} {e : AEnt} (hn : (L.map AEnt.slot).Nodup) (he : e ∈ L) (hs : s = (e.slot : Int)) : L.find? (fun e => s = (e.slot : Int)) = some e := by
  induction L with
  | nil => cases he
  | cons x xs ih =>
    rw [List.map_cons, List.nodup_cons] at hn
    rw [List.find?_cons]
    rcases List.mem_cons.1 he with rfl | he'
    · simp [hs]
    · have hne : ¬ s = (x.slot : Int) := by
        intro h
        have : x.slot = e.slot := by omega
        exact hn.1 (by rw [this]; exact List.mem_map_of_mem he')
      simp only [hne, decide_false]
      exact ih hn.2 he'
theorem val_some_of {L : List AEnt} {s : Int} {e : AEnt} (hn : (L.map AEnt.slot).Nodup) (he : e ∈ L) (hs : s = (e.slot : Int)) : val? (L.map AEnt.ent) s = some (.pointer (some ⟨e.blk, 0, none⟩)) := by
  rw [val_ents, find_some_of hn he hs]
  rfl
theorem drop_ents {L : List AEnt} {i : Nat} (hn : (L.map AEnt.slot).Nodup) : dropEnt i (L.map AEnt.ent) = (L.filter fun e => e.slot ≠ i).map AEnt.ent := by
  induction L with
  | nil => rfl
  | cons x xs ih =>
    rw [List.map_cons, List.nodup_cons] at hn
    simp only [List.map_cons, dropEnt, AEnt.ent, Int.natCast_inj]
    by_cases h : i = x.slot
    · subst h
      rw [if_pos rfl, List.filter_cons, if_neg (by simp)]
      have : xs.filter (fun e => e.slot ≠ x.slot) = xs := by
        rw [List.filter_eq_self]
        intro e he
        have : ¬ e.slot = x.slot := fun h => hn.1 (by rw [← h]; exact List.mem_map_of_mem he)
        simpa using this
      rw [this]
    · rw [if_neg h, List.filter_cons, if_pos (by simp; exact fun e => h e.symm), ih hn.2]
      rfl
/-- A thing more. -/
theorem ArenaG.snoc {ta tc : TypeId} {R : List Nat} {w : World} {p : Option Addr} {A : AR} {e : AEnt} (h : ArenaG ta tc w R p A) {w' : World} {S : List Nat} (hu : Upd S w w') (hS : ∀ k, k ∈ S → k ∈ R)
    (h1 : w'.heap[A.a]? = some (.cells #[.pointer p, .map (some A.m)] ta)) (h2 : w'.heap[A.m]? = some (.map (ents ((A.L ++ [e]).map AEnt.ent)) (A.c + 1))) (hs : ∀ x, x ∈ A.L → x.slot ≠ e.slot) (hb : w.heap.size ≤ e.blk) (hR : ∀ r, r ∈ R → r < w.heap.size)
    (h3 : w'.heap[e.blk]? = some (.cells (.int .u64 e.gen :: e.xs).toArray tc)) : ArenaG ta tc w' R p { A with L := A.L ++ [e], c := A.c + 1 } := by
  obtain ⟨q1, _, _, q4, q5, q6⟩ := h
  have hlt : ∀ x, x ∈ A.L → x.blk < w.heap.size := fun x hx => heap_lt (q6 x hx).2
  refine ⟨q1, h1, h2, ?_, ?_, ?_⟩
  · rw [List.map_append, List.nodup_append]
    refine ⟨q4, by simp, ?_⟩
    intro a ha b hb'
    obtain ⟨x, hx, rfl⟩ := List.mem_map.1 ha
    simp only [List.map_cons, List.map_nil, List.mem_singleton] at hb'
    rw [hb']
    exact hs x hx
  · rw [List.map_append, List.nodup_append]
    refine ⟨q5, by simp, ?_⟩
    intro a ha b hb'
    obtain ⟨x, hx, rfl⟩ := List.mem_map.1 ha
    simp only [List.map_cons, List.map_nil, List.mem_singleton] at hb'
    have := hlt x hx
    omega
  · intro x hx
    rcases List.mem_append.1 hx with hx | hx
    · exact ⟨(q6 x hx).1, hu.heap (q6 x hx).2 (fun hk => (q6 x hx).1 (hS _ hk))⟩
    · simp only [List.mem_singleton] at hx
      subst hx
      exact ⟨fun hk => by have := hR _ hk; omega, h3⟩
theorem ArenaG.filter {ta tc : TypeId} {R : List Nat} {w : World} {p : Option Addr} {A : AR} (h : ArenaG ta tc w R p A) {w' : World} {S : List Nat} (hu : Upd S w w') (hS : ∀ k, k ∈ S → k ∈ R) (f : AEnt → Bool)
    (h1 : w'.heap[A.a]? = some (.cells #[.pointer p, .map (some A.m)] ta)) (h2 : w'.heap[A.m]? = some (.map (ents ((A.L.filter f).map AEnt.ent)) A.c)) : ArenaG ta tc w' R p { A with L := A.L.filter f } := by
  obtain ⟨q1, _, _, q4, q5, q6⟩ := h
  refine ⟨q1, h1, h2, ?_, ?_, ?_⟩
  · exact q4.sublist ((List.filter_sublist).map _)
  · exact q5.sublist ((List.filter_sublist).map _)
  · intro x hx
    have hx := (List.mem_filter.1 hx).1
    exact ⟨(q6 x hx).1, hu.heap (q6 x hx).2 (fun hk => (q6 x hx).1 (hS _ hk))⟩
end Go.Proofs.YtmhlokomlngdmaaGreat
