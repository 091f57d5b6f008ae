/- The contracts of an arena's Alloc and Release in the world of the law ArenaHandles. -/
import Derived.Test.YtoknkedmpdcinaaArenaHw
namespace Go.Proofs.Ytoknkedmpdcinaa
open Go.RowKit
/-- Who are the blocks that are no thing's, no list's. -/
structure Bl7 (w0 : World) (base : Nat) (R : List Nat) (p g f aa am ca cm : Nat) : Prop where
  eq : R = [p, g, f, aa, am, ca, cm]
  nd : R.Nodup
  lt : ∀ r, r ∈ R → w0.heap.size ≤ r ∧ r < base
theorem bl7_of (w0 : World) (base p g f aa am ca cm : Nat) (h1 : w0.heap.size ≤ p) (h2 : w0.heap.size ≤ g) (h3 : w0.heap.size ≤ f) (n1 : p ≠ g) (n2 : p ≠ f) (n3 : g ≠ f) (hp : p < am) (hg : g < am) (hf : f < am) (h4 : am < aa) (h5 : aa < cm) (h6 : cm < ca) (h7 : ca < base) :
    Bl7 w0 base [p, g, f, aa, am, ca, cm] p g f aa am ca cm := by
  refine ⟨rfl, ?_, ?_⟩
  · refine List.nodup_cons.2 ⟨by simp; omega, List.nodup_cons.2 ⟨by simp; omega, List.nodup_cons.2 ⟨by simp; omega, List.nodup_cons.2 ⟨by simp; omega, List.nodup_cons.2 ⟨by simp; omega, List.nodup_cons.2 ⟨by simp; omega, by simp⟩⟩⟩⟩⟩⟩
  · intro r hr
    simp only [List.mem_cons, List.not_mem_nil, or_false] at hr
    rcases hr with h | h | h | h | h | h | h <;> omega
theorem Bl7.ne {w0 : World} {base : Nat} {R : List Nat} {p g f aa am ca cm : Nat} (h : Bl7 w0 base R p g f aa am ca cm) :
    (aa ≠ p ∧ aa ≠ f ∧ aa ≠ g ∧ am ≠ p ∧ am ≠ f ∧ am ≠ g) ∧ (ca ≠ p ∧ ca ≠ f ∧ ca ≠ g ∧ cm ≠ p ∧ cm ≠ f ∧ cm ≠ g) ∧ (aa ≠ ca ∧ aa ≠ cm ∧ am ≠ ca ∧ am ≠ cm) := by
  have hnd := h.nd
  rw [h.eq] at hnd
  simp only [List.nodup_cons, List.mem_cons, List.not_mem_nil, or_false, not_or] at hnd
  obtain ⟨⟨a1, a2, a3, a4, a5, a6⟩, ⟨b2, b3, b4, b5, b6⟩, ⟨c3, c4, c5, c6⟩, ⟨d4, d5, d6⟩, ⟨e5, e6⟩, _⟩ := hnd
  exact ⟨⟨fun e => a3 e.symm, fun e => c3 e.symm, fun e => b3 e.symm, fun e => a4 e.symm, fun e => c4 e.symm, fun e => b4 e.symm⟩, ⟨fun e => a5 e.symm, fun e => c5 e.symm, fun e => b5 e.symm, fun e => a6 e.symm, fun e => c6 e.symm, fun e => b6 e.symm⟩, d5, d6, e5, e6⟩
theorem Bl7.mem {w0 : World} {base : Nat} {R : List Nat} {p g f aa am ca cm : Nat} (h : Bl7 w0 base R p g f aa am ca cm) : p ∈ R ∧ g ∈ R ∧ f ∈ R ∧ aa ∈ R ∧ am ∈ R ∧ ca ∈ R ∧ cm ∈ R := by rw [h.eq]; simp
def sel (k a c : Nat) : Nat := if k = 0 then a else c
def HP (w0 w : World) (base : Nat) (R : List Nat) (p g f aa am ca cm : Nat) (vo vg : Value) (on gone : List HEnt) (n t : Nat) (on' gone' : List HEnt) : Prop :=
  ∃ (gens : List Int) (free : List Bool) (LA LC : List AEnt) (cA cC : Nat), HW w0 w base R p g f aa am ca cm vo vg on gone gens free LA LC cA cC ∧ Plain n t on' gone' gens free LA LC
theorem HP.below {w0 w w' : World} {base : Nat} {R : List Nat} {p g f aa am ca cm : Nat} {vo vg : Value} {on gone : List HEnt} {n t : Nat} {on' gone' : List HEnt} (h : HP w0 w base R p g f aa am ca cm vo vg on gone n t on' gone') (hb : Below w.heap.size w w') : HP w0 w' base R p g f aa am ca cm vo vg on gone n t on' gone' := by
  obtain ⟨gens, free, LA, LC, cA, cC, h1, h2⟩ := h
  exact ⟨gens, free, LA, LC, cA, cC, h1.below hb, h2⟩
theorem HP.own {w0 w : World} {base : Nat} {R : List Nat} {p g f aa am ca cm : Nat} {vo vg : Value} {on gone : List HEnt} {n t : Nat} {on' gone' : List HEnt} (h : HP w0 w base R p g f aa am ca cm vo vg on gone n t on' gone') : HOwn w base vo on ∧ HOwn w base vg gone ∧ Below w0.heap.size w0 w ∧ base ≤ w.heap.size := by
  obtain ⟨gens, free, LA, LC, cA, cC, h1, h2⟩ := h
  exact ⟨h1.hon, h1.hgone, h1.bel, h1.siz⟩
theorem Plain.up {n t : Nat} {on gone : List HEnt} {gens : List Int} {free : List Bool} {LA LC : List AEnt} (h : Plain n t on gone gens free LA LC) : Plain n (t + 1) on gone gens free LA LC :=
  ⟨h.lf, h.lg, h.nd, h.busy, h.gen, h.cnt, h.num, h.inn, h.sA, h.sC, h.out, fun k v hk => by have := h.rng k v hk; omega⟩
theorem HP.up {w0 w : World} {base : Nat} {R : List Nat} {p g f aa am ca cm : Nat} {vo vg : Value} {on gone : List HEnt} {n t : Nat} {on' gone' : List HEnt} (h : HP w0 w base R p g f aa am ca cm vo vg on gone n t on' gone') : HP w0 w base R p g f aa am ca cm vo vg on gone n (t + 1) on' gone' := by
  obtain ⟨gens, free, LA, LC, cA, cC, h1, h2⟩ := h
  exact ⟨gens, free, LA, LC, cA, cC, h1, h2.up⟩
/-- An arena's Alloc: a handle that is none of those that are gone, or no room. -/
def AllocEnd (k : Nat) (x : ByteArray) (w0 : World) (base : Nat) (R : List Nat) (p g f aa am ca cm : Nat) (vo vg : Value) (on gone : List HEnt) (n t : Nat) (e : Ending) (w' : World) : Prop :=
  (on.length < n ∧ ∃ (s : Nat) (gv : Int), e = .returned (.tuple #[.agg #[.int .i64 s, .int .u64 gv], .int .i64 0]) ∧ HP w0 w' base R p g f aa am ca cm vo vg on gone n (t + 1) (on ++ [⟨s, gv, k, x⟩]) gone ∧ ∀ y, y ∈ gone → ¬ (y.slot = s ∧ y.gen = gv)) ∨
  (n ≤ on.length ∧ e = .returned (.tuple #[.agg #[.int .i64 0, .int .u64 0], .int .i64 5]) ∧ HP w0 w' base R p g f aa am ca cm vo vg on gone n t on gone)
theorem hp_alloc (k : Nat) (hk : k = 0 ∨ k = 1) (x : ByteArray) (w0 w : World) (base : Nat) (R : List Nat) (p g f aa am ca cm : Nat) (vo vg : Value) (on gone : List HEnt) (n t : Nat) (hK : Bl7 w0 base R p g f aa am ca cm) (H : HP w0 w base R p g f aa am ca cm vo vg on gone n t on gone) :
    Calls Try.prog 13 #[.pointer (some ⟨sel k aa ca, 0, none⟩), .string x] w (AllocEnd k x w0 base R p g f aa am ca cm vo vg on gone n t) := by
  obtain ⟨gens, free, LA, LC, cA, cC, H, P⟩ := H
  have hR := hK.lt
  obtain ⟨HN1, HN2, HN3⟩ := hK.ne
  obtain ⟨m1, m2, m3, m4, m5, m6, m7⟩ := hK.mem
  have hRl : ∀ r, r ∈ R → r < w.heap.size := fun r hr => by have := hR r hr; have := H.siz; omega
  have hcnt := P.cnt
  by_cases hf : true ∈ free
  · have hpos : 0 < free.count true := List.count_pos_iff.2 hf
    have i1 := List.idxOf_lt_length_of_mem hf
    have i2 : free[free.idxOf true]? = some true := by rw [List.getElem?_eq_getElem i1, List.getElem_idxOf]
    have hgone : ∀ y, y ∈ gone → ¬ (y.slot = free.idxOf true ∧ y.gen = gens.getD (free.idxOf true) 0) := by
      intro y hy hh
      obtain ⟨v, hv, hlt⟩ := P.out y hy
      rw [hh.1] at hv
      have := hh.2
      rw [List.getD_eq_getElem?_getD, hv] at this
      simp at this
      omega
    have hne : ∀ {k : Nat} {L : List AEnt}, Side on k L → ∀ e, e ∈ L → e.slot ≠ free.idxOf true := by
      intro k L hs e he hh
      obtain ⟨y, hy, _, hm⟩ := hs.back e he
      have := P.busy y hy
      rw [← hm.1, hh, i2] at this
      cases this
    rcases hk with rfl | rfl
    · refine (AStr.gAlloc_some ⟨aa, am, LA, cA⟩ p g f R gens free x w H.fst H.pool hf HN1.1 HN1.2.1 HN1.2.2.2.1 HN1.2.2.2.2.1 HN1.2.2.2.2.2 ⟨m1, m3, m5⟩ hRl (hne P.sA)).mono ?_
      rintro e w' ⟨rfl, hu, hp, b, hb, hA⟩
      have hu' : Upd [p, f, am] w w' := hu
      have hq : AStr.AG w' R (some ⟨p, 0, none⟩) ⟨ca, cm, LC, cC⟩ := ArenaG.upd H.snd hu' (by simp; exact ⟨m1, m3, m5⟩) (by simp; exact ⟨HN2.1, HN2.2.1, fun h => HN3.2.2.1 h.symm⟩) (by simp; exact ⟨HN2.2.2.2.1, HN2.2.2.2.2.1, fun h => HN3.2.2.2 h.symm⟩)
      refine .inl ⟨by omega, _, _, rfl, ⟨gens, _, _, LC, _, cC, H.step hu' (by simp; exact ⟨m1, m3, m5⟩) hR hp hA hq ?_ (fun e he => .inl he), P.put hf _ rfl rfl (.inl rfl) (P.sA.snoc _ _ rfl ⟨rfl, rfl, rfl⟩) (P.sC.other _ (by simp)) (by simp; omega)⟩, hgone⟩
      intro e he
      rcases List.mem_append.1 he with he | he
      · exact .inl he
      · obtain rfl := List.mem_singleton.1 he
        exact .inr hb
    · refine (AStr.gAlloc_some ⟨ca, cm, LC, cC⟩ p g f R gens free x w H.snd H.pool hf HN2.1 HN2.2.1 HN2.2.2.2.1 HN2.2.2.2.2.1 HN2.2.2.2.2.2 ⟨m1, m3, m7⟩ hRl (hne P.sC)).mono ?_
      rintro e w' ⟨rfl, hu, hp, b, hb, hC⟩
      have hu' : Upd [p, f, cm] w w' := hu
      have hq : AStr.AG w' R (some ⟨p, 0, none⟩) ⟨aa, am, LA, cA⟩ := ArenaG.upd H.fst hu' (by simp; exact ⟨m1, m3, m7⟩) (by simp; exact ⟨HN1.1, HN1.2.1, HN3.2.1⟩) (by simp; exact ⟨HN1.2.2.2.1, HN1.2.2.2.2.1, HN3.2.2.2⟩)
      refine .inl ⟨by omega, _, _, rfl, ⟨gens, _, LA, _, cA, _, H.step hu' (by simp; exact ⟨m1, m3, m7⟩) hR hp hq hC (fun e he => .inl he) ?_, P.put hf _ rfl rfl (.inr rfl) (P.sA.other _ (by simp)) (P.sC.snoc _ _ rfl ⟨rfl, rfl, rfl⟩) (by simp; omega)⟩, hgone⟩
      intro e he
      rcases List.mem_append.1 he with he | he
      · exact .inl he
      · obtain rfl := List.mem_singleton.1 he
        exact .inr hb
  · have h0 : free.count true = 0 := List.count_eq_zero.2 hf
    rcases hk with rfl | rfl
    · refine (AStr.gAlloc_full ⟨aa, am, LA, cA⟩ p g f R gens free x w H.fst H.pool hf).mono ?_
      rintro e w' ⟨rfl, hb⟩
      exact .inr ⟨by omega, rfl, ⟨gens, free, LA, LC, cA, cC, H.below hb, P⟩⟩
    · refine (AStr.gAlloc_full ⟨ca, cm, LC, cC⟩ p g f R gens free x w H.snd H.pool hf).mono ?_
      rintro e w' ⟨rfl, hb⟩
      exact .inr ⟨by omega, rfl, ⟨gens, free, LA, LC, cA, cC, H.below hb, P⟩⟩
theorem HP.appOn {w0 w w' : World} {base : Nat} {R : List Nat} {p g f aa am ca cm : Nat} {vo vg vo' : Value} {on gone : List HEnt} {n t : Nat} {on' gone' : List HEnt} (h : HP w0 w base R p g f aa am ca cm vo vg on gone n t on' gone') (hK : Bl7 w0 base R p g f aa am ca cm)
    (hg : w.grownBy w' vo.ownBlock) (ho : HOwn w' base vo' on') (hat : vo'.ownBlock = vo.ownBlock ∨ vo'.ownBlock = some w.heap.size) : HP w0 w' base R p g f aa am ca cm vo' vg on' gone n t on' gone' := by
  obtain ⟨gens, free, LA, LC, cA, cC, h1, h2⟩ := h
  exact ⟨gens, free, LA, LC, cA, cC, h1.appOn hK.lt hK.mem hg ho hat, h2⟩
theorem HP.appGone {w0 w w' : World} {base : Nat} {R : List Nat} {p g f aa am ca cm : Nat} {vo vg vg' : Value} {on gone : List HEnt} {n t : Nat} {on' gone' : List HEnt} (h : HP w0 w base R p g f aa am ca cm vo vg on gone n t on' gone') (hK : Bl7 w0 base R p g f aa am ca cm)
    (hg : w.grownBy w' vg.ownBlock) (ho : HOwn w' base vg' gone') (hat : vg'.ownBlock = vg.ownBlock ∨ vg'.ownBlock = some w.heap.size) : HP w0 w' base R p g f aa am ca cm vo vg' on gone' n t on' gone' := by
  obtain ⟨gens, free, LA, LC, cA, cC, h1, h2⟩ := h
  exact ⟨gens, free, LA, LC, cA, cC, h1.appGone hK.lt hK.mem hg ho hat, h2⟩
theorem HP.fresh {w0 w w' : World} {base : Nat} {R : List Nat} {p g f aa am ca cm : Nat} {vo vg vo' : Value} {on gone : List HEnt} {n t : Nat} {on' gone' : List HEnt} (h : HP w0 w base R p g f aa am ca cm vo vg on gone n t on' gone')
    (hb : Below w.heap.size w w') (ho : HOwn w' base vo' on') (hn : ∀ b, vo'.ownBlock = some b → w.heap.size ≤ b) : HP w0 w' base R p g f aa am ca cm vo' vg on' gone n t on' gone' := by
  obtain ⟨gens, free, LA, LC, cA, cC, h1, h2⟩ := h
  exact ⟨gens, free, LA, LC, cA, cC, h1.fresh hb ho hn, h2⟩
theorem cell_four_new (w : World) (t : TypeId) (a b c d : Value) : ∀ j u, [a, b, c, d][j]? = some u → (w.alloc (.cells #[a, b, c, d] t)).cell? ((⟨w.heap.size, 0, none⟩ : Addr).add j) = some u := by
  intro j u hj
  rw [show (⟨w.heap.size, 0, none⟩ : Addr).add j = ⟨w.heap.size, j, none⟩ from by rw [Addr.add_lit, Nat.zero_add], cell_of_heap (heap_alloc_new w _)]
  rw [← hj]
  simp
def ReleaseEnd (k : Nat) (l r : List HEnt) (x : HEnt) (w0 : World) (base : Nat) (R : List Nat) (p g f aa am ca cm : Nat) (vo vg : Value) (gone : List HEnt) (n t : Nat) (e : Ending) (w' : World) : Prop :=
  (x.inn = k ∧ e = .returned (.bool true) ∧ HP w0 w' base R p g f aa am ca cm vo vg (l ++ x :: r) gone n (t + 1) (l ++ r) (gone ++ [x])) ∨
  (x.inn ≠ k ∧ e = .returned (.bool false) ∧ HP w0 w' base R p g f aa am ca cm vo vg (l ++ x :: r) gone n t (l ++ x :: r) gone)
theorem filter_len {L : List AEnt} {e : AEnt} (hn : (L.map AEnt.slot).Nodup) (he : e ∈ L) : (L.filter fun y => decide (y.slot ≠ e.slot)).length + 1 = L.length := by
  induction L with
  | nil => cases he
  | cons y l ih =>
    rw [List.map_cons, List.nodup_cons] at hn
    by_cases h : y.slot = e.slot
    · have : l.filter (fun y => decide (y.slot ≠ e.slot)) = l := by
        rw [List.filter_eq_self]
        intro z hz
        have : z.slot ≠ e.slot := fun hh => hn.1 (by rw [h, ← hh]; exact List.mem_map_of_mem hz)
        simpa using this
      rw [List.filter_cons, if_neg (by simp [h]), this]
      rfl
    · rcases List.mem_cons.1 he with h1 | h1
      · exact absurd (congrArg AEnt.slot h1.symm) h
      · rw [List.filter_cons, if_pos (by simp [h])]
        have := ih hn.2 h1
        simp only [List.length_cons]
        omega
theorem hp_release (k : Nat) (hk : k = 0 ∨ k = 1) (l r : List HEnt) (x : HEnt) (w0 w : World) (base : Nat) (R : List Nat) (p g f aa am ca cm : Nat) (vo vg : Value) (gone : List HEnt) (n t : Nat) (ht : t ≤ 300) (hK : Bl7 w0 base R p g f aa am ca cm)
    (H : HP w0 w base R p g f aa am ca cm vo vg (l ++ x :: r) gone n t (l ++ x :: r) gone) :
    Calls Try.prog 14 #[.pointer (some ⟨sel k aa ca, 0, none⟩), .agg #[.int .i64 x.slot, .int .u64 x.gen]] w (ReleaseEnd k l r x w0 base R p g f aa am ca cm vo vg gone n t) := by
  obtain ⟨gens, free, LA, LC, cA, cC, H, P⟩ := H
  have hR := hK.lt
  obtain ⟨HN1, HN2, HN3⟩ := hK.ne
  obtain ⟨m1, m2, m3, m4, m5, m6, m7⟩ := hK.mem
  have hx : x ∈ l ++ x :: r := by simp
  have hgx := P.gen x hx
  have hrx := P.rng _ _ hgx
  have hgd : gens.getD x.slot 0 = x.gen := by simp [List.getD, hgx]
  have hwr : IntKind.u64.wrap (gens.getD x.slot 0 + 1) = gens.getD x.slot 0 + 1 := by rw [hgd, IntKind.wrap_u64]; omega
  have hin := P.inn x hx
  have sA := P.sA.drop P.nd
  have sC := P.sC.drop P.nd
  have std := P.std
  rcases hk with rfl | rfl
  · by_cases hi : x.inn = 0
    · obtain ⟨e, he, hm⟩ := P.sA.fwd x hx hi
      have hfr : free[e.slot]? = some false := by rw [hm.1]; exact P.busy x hx
      refine (AStr.gRelease_some ⟨aa, am, LA, cA⟩ p g f R gens free x.slot x.gen e w H.fst H.pool he (by rw [hm.1]) hm.2.1 hfr HN1.1 HN1.2.1 HN1.2.2.1 HN1.2.2.2.1 HN1.2.2.2.2.1 HN1.2.2.2.2.2 ⟨m1, m2, m3, m5⟩).mono ?_
      rintro e' w' ⟨rfl, hu, hp, hA⟩
      rw [hm.1, hwr] at hp
      rw [if_pos hi, ← hm.1] at sA
      rw [if_neg (by omega)] at sC
      have hu' : Upd [p, g, f, am] w w' := hu
      have hq : AStr.AG w' R (some ⟨p, 0, none⟩) ⟨ca, cm, LC, cC⟩ := ArenaG.upd H.snd hu' (by simp; exact ⟨m1, m2, m3, m5⟩) (by simp; exact ⟨HN2.1, HN2.2.2.1, HN2.2.1, fun h => HN3.2.2.1 h.symm⟩) (by simp; exact ⟨HN2.2.2.2.1, HN2.2.2.2.2.2, HN2.2.2.2.2.1, fun h => HN3.2.2.2 h.symm⟩)
      refine .inl ⟨hi, rfl, ⟨_, _, _, LC, _, cC, H.step hu' (by simp; exact ⟨m1, m2, m3, m5⟩) hR hp hA hq (fun e he => .inl (List.mem_filter.1 he).1) (fun e he => .inl he), P.drop sA sC ?_⟩⟩
      have := filter_len H.fst.2.2.2.1 he
      dsimp only at this ⊢
      omega
    · have hi1 : x.inn = 1 := by omega
      have hd : Dead LA x := by
        rcases std.inon x hx with h1 | h1
        · exact absurd h1.1 hi
        · exact h1.2.1
      refine (AStr.gRelease_none ⟨aa, am, LA, cA⟩ R (some ⟨p, 0, none⟩) x.slot x.gen w H.fst hd).mono ?_
      rintro e w' ⟨rfl, hb⟩
      exact .inr ⟨hi, rfl, ⟨gens, free, LA, LC, cA, cC, H.below hb, P⟩⟩
  · by_cases hi : x.inn = 1
    · obtain ⟨e, he, hm⟩ := P.sC.fwd x hx hi
      have hfr : free[e.slot]? = some false := by rw [hm.1]; exact P.busy x hx
      refine (AStr.gRelease_some ⟨ca, cm, LC, cC⟩ p g f R gens free x.slot x.gen e w H.snd H.pool he (by rw [hm.1]) hm.2.1 hfr HN2.1 HN2.2.1 HN2.2.2.1 HN2.2.2.2.1 HN2.2.2.2.2.1 HN2.2.2.2.2.2 ⟨m1, m2, m3, m7⟩).mono ?_
      rintro e' w' ⟨rfl, hu, hp, hC⟩
      rw [hm.1, hwr] at hp
      rw [if_pos hi, ← hm.1] at sC
      rw [if_neg (by omega)] at sA
      have hu' : Upd [p, g, f, cm] w w' := hu
      have hq : AStr.AG w' R (some ⟨p, 0, none⟩) ⟨aa, am, LA, cA⟩ := ArenaG.upd H.fst hu' (by simp; exact ⟨m1, m2, m3, m7⟩) (by simp; exact ⟨HN1.1, HN1.2.2.1, HN1.2.1, HN3.2.1⟩) (by simp; exact ⟨HN1.2.2.2.1, HN1.2.2.2.2.2, HN1.2.2.2.2.1, HN3.2.2.2⟩)
      refine .inl ⟨hi, rfl, ⟨_, _, LA, _, cA, _, H.step hu' (by simp; exact ⟨m1, m2, m3, m7⟩) hR hp hq hC (fun e he => .inl he) (fun e he => .inl (List.mem_filter.1 he).1), P.drop sA sC ?_⟩⟩
      have := filter_len H.snd.2.2.2.1 he
      dsimp only at this ⊢
      omega
    · have hi0 : x.inn = 0 := by omega
      have hd : Dead LC x := by
        rcases std.inon x hx with h1 | h1
        · exact h1.2.2
        · exact absurd h1.1 hi
      refine (AStr.gRelease_none ⟨ca, cm, LC, cC⟩ R (some ⟨p, 0, none⟩) x.slot x.gen w H.snd hd).mono ?_
      rintro e w' ⟨rfl, hb⟩
      exact .inr ⟨hi, rfl, ⟨gens, free, LA, LC, cA, cC, H.below hb, P⟩⟩
def RelYes (x : HEnt) (l r : List HEnt) (w0 : World) (base : Nat) (R : List Nat) (p g f aa am ca cm : Nat) (vo vg : Value) (on gone : List HEnt) (n t b m : Nat) (e : Ending) (w' : World) : Prop :=
  e = .returned (.bool true) ∧ HAt w' b m x ∧ HP w0 w' base R p g f aa am ca cm vo vg on gone n (t + 1) (l ++ r) (gone ++ [x])
def RelNo (x : HEnt) (w0 : World) (base : Nat) (R : List Nat) (p g f aa am ca cm : Nat) (vo vg : Value) (on gone : List HEnt) (n t b m : Nat) (e : Ending) (w' : World) : Prop :=
  e = .returned (.bool false) ∧ HAt w' b m x ∧ HP w0 w' base R p g f aa am ca cm vo vg on gone n t on gone
theorem HP.at {w0 w : World} {base : Nat} {R : List Nat} {p g f aa am ca cm : Nat} {on gone : List HEnt} {n t : Nat} {on' gone' : List HEnt} {b co : Nat} {vg : Value} {m : Nat} {x : HEnt} (h : HP w0 w base R p g f aa am ca cm (.slice (some ⟨b, 0, none⟩) on.length co) vg on gone n t on' gone') (hx : on[m]? = some x) : HAt w b m x := by
  obtain ⟨a, c, he, hr⟩ := h.own.1.rows
  obtain ⟨b', hb, _, hat⟩ := hr m x hx
  injection he with h1 h2 h3
  rw [hb] at h1
  injection h1 with h1
  injection h1 with h1
  subst h1
  exact hat
theorem hp_rel_yes (k : Nat) (hk : k = 0 ∨ k = 1) (l r : List HEnt) (x : HEnt) (w0 w : World) (base : Nat) (R : List Nat) (p g f aa am ca cm : Nat) (b co : Nat) (vg : Value) (on gone : List HEnt) (n t m : Nat) (ht : t ≤ 300) (hK : Bl7 w0 base R p g f aa am ca cm)
    (H : HP w0 w base R p g f aa am ca cm (.slice (some ⟨b, 0, none⟩) on.length co) vg on gone n t on gone) (hs : on = l ++ x :: r) (hx : on[m]? = some x) (hi : x.inn = k) :
    Calls Try.prog 14 #[.pointer (some ⟨sel k aa ca, 0, none⟩), .agg #[.int .i64 x.slot, .int .u64 x.gen]] w (RelYes x l r w0 base R p g f aa am ca cm (.slice (some ⟨b, 0, none⟩) on.length co) vg on gone n t b m) := by
  subst hs
  refine (hp_release k hk l r x w0 w base R p g f aa am ca cm _ vg gone n t ht hK H).mono ?_
  rintro e w' (⟨_, rfl, h⟩ | ⟨h, _⟩)
  · exact ⟨rfl, h.at hx, h⟩
  · exact absurd hi h
theorem hp_rel_no (k : Nat) (hk : k = 0 ∨ k = 1) (l r : List HEnt) (x : HEnt) (w0 w : World) (base : Nat) (R : List Nat) (p g f aa am ca cm : Nat) (b co : Nat) (vg : Value) (on gone : List HEnt) (n t m : Nat) (ht : t ≤ 300) (hK : Bl7 w0 base R p g f aa am ca cm)
    (H : HP w0 w base R p g f aa am ca cm (.slice (some ⟨b, 0, none⟩) on.length co) vg on gone n t on gone) (hs : on = l ++ x :: r) (hx : on[m]? = some x) (hi : x.inn ≠ k) :
    Calls Try.prog 14 #[.pointer (some ⟨sel k aa ca, 0, none⟩), .agg #[.int .i64 x.slot, .int .u64 x.gen]] w (RelNo x w0 base R p g f aa am ca cm (.slice (some ⟨b, 0, none⟩) on.length co) vg on gone n t b m) := by
  subst hs
  refine (hp_release k hk l r x w0 w base R p g f aa am ca cm _ vg gone n t ht hK H).mono ?_
  rintro e w' (⟨h, _⟩ | ⟨_, rfl, h⟩)
  · exact absurd h hi
  · exact ⟨rfl, h.at hx, h⟩
theorem own_empty (w : World) (base : Nat) (e : TypeId) (size : Nat) (h : base ≤ w.heap.size) : (w.alloc (.cells #[] e)).ownsRow base e size (.slice (some ⟨w.heap.size, 0, none⟩) 0 0) 0 [] :=
  ⟨by simp, .inr ⟨w.heap.size, 0, #[], rfl, h, heap_alloc_new w _, Nat.le_refl _, Nat.zero_le _, by simp, by simp⟩⟩
theorem kcells_one (l : List HEnt) : ∀ u ∈ kcells l, u.oneCell' = true := by
  intro u hu
  obtain ⟨x, _, hx⟩ := List.mem_flatMap.1 hu
  simp [HEnt.cells] at hx
  rcases hx with rfl | rfl | rfl | rfl <;> rfl
theorem HOwn.row {w : World} {base b n co : Nat} {l : List HEnt} (h : HOwn w base (.slice (some ⟨b, 0, none⟩) n co) l) : ∀ (j : Nat) (u : Value), (kcells l)[j]? = some u → w.cell? ⟨b, j, none⟩ = some u := by
  intro j u hj
  rcases h.2 with ⟨h1, _⟩ | ⟨g, cap, cur, h1, h2, h3, h4, h5, h6, h7⟩
  · cases h1
  · injection h1 with h1
    injection h1 with h1
    injection h1 with h1
    subst h1
    rw [cell_of_heap h3]
    rw [← h7] at hj
    have := (List.getElem?_eq_some_iff.1 hj).1
    rw [List.getElem?_take_of_lt (by simp at this; omega)] at hj
    simpa using hj
/-- What stands behind the one that is struck, as a slice of its own. -/
theorem tail_cells {w : World} {base b n co m : Nat} {l r : List HEnt} {x : HEnt} (h : HOwn w base (.slice (some ⟨b, 0, none⟩) n co) (l ++ x :: r)) (hl : l.length = m) (hn : n ≤ co) :
    ∃ A : Addr, (if co = m + 1 then some (⟨b, 0, none⟩ : Addr) else some ⟨b, (m + 1) * 4, none⟩) = some A ∧ A.block = b ∧ ∀ (j : Nat) (u : Value), (kcells r)[j]? = some u → w.cell? (A.add j) = some u := by
  have hlen : (l ++ x :: r).length = n := by
    rcases h.2 with ⟨h1, _⟩ | ⟨g, cap, cur, h1, h2⟩
    · cases h1
    · injection h1 with _ h2
      exact h2.symm
  by_cases hc : co = m + 1
  · refine ⟨⟨b, 0, none⟩, by rw [if_pos hc], rfl, ?_⟩
    have : r = [] := by
      rw [List.length_append, List.length_cons] at hlen
      exact List.length_eq_zero_iff.1 (by omega)
    subst this
    intro j u hj
    simp [kcells] at hj
  · refine ⟨⟨b, (m + 1) * 4, none⟩, by rw [if_neg hc], rfl, ?_⟩
    intro j u hj
    rw [Addr.add_lit]
    refine h.row _ _ ?_
    rw [show l ++ x :: r = (l ++ [x]) ++ r by simp, kcells_append, List.getElem?_append_right (by rw [kcells_length]; simp; omega), kcells_length]
    rw [← hj]
    congr 1
    simp
    omega
theorem head_cells {w : World} {base b n co : Nat} {l r : List HEnt} (h : HOwn w base (.slice (some ⟨b, 0, none⟩) n co) (l ++ r)) : ∀ (j : Nat) (u : Value), (kcells l)[j]? = some u → w.cell? ((⟨b, 0, none⟩ : Addr).add j) = some u := by
  intro j u hj
  rw [Addr.add_lit, Nat.zero_add]
  refine h.row _ _ ?_
  rw [kcells_append]
  exact List.getElem?_append_left (by
    have := (List.getElem?_eq_some_iff.1 hj).1
    exact this) |>.trans hj
theorem own_zero {w : World} {base : Nat} {e : TypeId} {size m : Nat} {v : Value} {xs : List Value} (h : w.ownsRow base e size v (0 + m) ([] ++ xs)) : w.ownsRow base e size v m xs := by
  rwa [Nat.zero_add, List.nil_append] at h
theorem cells_grown {w8 w9 : World} {o : Obj} {A : Addr} {b n c : Nat} {xs : List Value} (hg : (w8.drew.alloc o).grownBy w9 (Value.slice (some ⟨w8.heap.size, 0, none⟩) n c).ownBlock) (hB : Below w8.heap.size w8 (w8.drew.alloc o)) (h : ∀ (j : Nat) (u : Value), xs[j]? = some u → w8.cell? (A.add j) = some u) (hA : A.block = b) (hb : b < w8.heap.size) :
    ∀ (j : Nat) (u : Value), xs[j]? = some u → w9.cell? (A.add j) = some u := by
  intro j u hj
  have h9 : Below w8.heap.size w8 w9 := hB.grown hg hB.size (by intro k hk; simp [Value.ownBlock] at hk; omega)
  refine (h9.cell ?_).trans (h j u hj)
  unfold Addr.add
  split
  · rw [hA]; exact hb
  · show A.block < _
    rw [hA]; exact hb
theorem fresh_end {w8 w9 w10 : World} {o : Obj} {n c : Nat} {v9 v10 : Value} (hB : Below w8.heap.size w8 (w8.drew.alloc o)) (hg9 : (w8.drew.alloc o).grownBy w9 (Value.slice (some ⟨w8.heap.size, 0, none⟩) n c).ownBlock)
    (hat9 : v9.ownBlock = (Value.slice (some ⟨w8.heap.size, 0, none⟩) n c).ownBlock ∨ v9.ownBlock = some (w8.drew.alloc o).heap.size) (hg10 : w9.grownBy w10 v9.ownBlock) (hat10 : v10.ownBlock = v9.ownBlock ∨ v10.ownBlock = some w9.heap.size) :
    Below w8.heap.size w8 w10 ∧ ∀ b, v10.ownBlock = some b → w8.heap.size ≤ b := by
  have h1 : ∀ k, (Value.slice (some ⟨w8.heap.size, 0, none⟩) n c).ownBlock = some k → w8.heap.size ≤ k := by
    intro k hk
    simp [Value.ownBlock] at hk
    omega
  have h9 : Below w8.heap.size w8 w9 := hB.grown hg9 hB.size h1
  have h2 : ∀ k, v9.ownBlock = some k → w8.heap.size ≤ k := by
    intro k hk
    rcases hat9 with h | h
    · rw [h] at hk
      exact h1 k hk
    · rw [h] at hk
      injection hk with hk
      have := hB.size
      omega
  refine ⟨h9.grown hg10 h9.size h2, fun b hb => ?_⟩
  rcases hat10 with h | h
  · rw [h] at hb
    exact h2 b hb
  · rw [h] at hb
    injection hb with hb
    have := h9.size
    omega
theorem HP.nil {w0 w : World} {base : Nat} {R : List Nat} {p g f aa am ca cm : Nat} {vo vg : Value} {on gone : List HEnt} {n t : Nat} (h : HP w0 w base R p g f aa am ca cm vo vg on gone n t on gone) :
    Calls Try.prog 18 #[.pointer (some ⟨aa, 0, none⟩), .agg #[.int .i64 0, .int .u64 0]] w fun e w' => e = .returned (.tuple #[.pointer none, .bool false]) ∧ Below w.heap.size w w' := by
  obtain ⟨gens, free, LA, LC, cA, cC, H, P⟩ := h
  refine AStr.gGet_none ⟨aa, am, LA, cA⟩ R (some ⟨p, 0, none⟩) 0 0 w H.fst ?_
  intro e he hh
  obtain ⟨x, hx, _, hm⟩ := P.sA.back e he
  have := P.rng _ _ (P.gen x hx)
  have := hm.2.1
  have := hh.2
  omega
end Go.Proofs.Ytoknkedmpdcinaa
