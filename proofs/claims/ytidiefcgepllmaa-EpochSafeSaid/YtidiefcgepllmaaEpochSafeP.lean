/- The law EpochSafe's plain part: what is pinned, what waits, what was run. -/
import Derived.Test.YtidiefcgepllmaaEpochSafe
namespace Go.Proofs.Ytidiefcgepllmaa
open Go.RowKit
structure SP (B : SafeB) (x : SafeSt) (g : EpG) (L : List Ret) (k : Nat) (ats I : List Nat) : Prop where
  wr : x.wrong = false
  lw : x.waits.length = x.nbs.length
  lr : x.ran.length = x.nbs.length
  la : ats.length = x.nbs.length
  bd : x.nbs.length ≤ k ∧ g.now ≤ k ∧ g.S.length ≤ k
  pn : ∀ t, t < 8 → (x.pin t = true ↔ ∃ y, y ∈ g.S ∧ y.task = (t : Nat))
  tk : ∀ y, y ∈ g.S → (∃ t : Nat, t < 8 ∧ y.task = t) ∧ y.t ≤ g.now
  at' : ∀ i, ats.getD i 0 ≤ g.now
  wt : ∀ i, i < x.nbs.length → ∀ t, t < 8 → ((x.waits.getD i none8) t = true ↔ ∃ y, y ∈ g.S ∧ y.task = (t : Nat) ∧ y.t ≤ ats.getD i 0)
  eL : L = I.map (mkR B x.nbs ats)
  pI : I.Pairwise (· < ·)
  lI : ∀ i, i ∈ I → i < x.nbs.length
  rn : ∀ i, i < x.nbs.length → x.ran.getD i 0 = if i ∈ I then 0 else 1
theorem anyb_false {p : B8} (h : ∀ t, t < 8 → p t = false) : anyb p = false := by
  simp [anyb, h 0 (by decide), h 1 (by decide), h 2 (by decide), h 3 (by decide), h 4 (by decide), h 5 (by decide), h 6 (by decide), h 7 (by decide)]
variable {B : SafeB} {x : SafeSt} {g : EpG} {L : List Ret} {k : Nat} {ats I : List Nat}
theorem SP.start (B : SafeB) : SP B ⟨none8, [], [], false, []⟩ ⟨[], 0, 0⟩ [] 0 [] [] :=
  ⟨rfl, rfl, rfl, rfl, by simp, by simp [none8], by simp, by simp, by simp, rfl, by simp, by simp, by simp⟩
theorem SP.ripe (h : SP B x g L k ats I) : ∀ i, i < x.nbs.length → (∀ y, y ∈ g.S → ats.getD i 0 < y.t) → anyb (x.waits.getD i none8) = false := by
  intro i hi hr
  refine anyb_false fun t ht => ?_
  cases hc : (x.waits.getD i none8) t with
  | false => rfl
  | true =>
    obtain ⟨y, hy, _, hyt⟩ := (h.wt i hi t ht).1 hc
    have := hr y hy
    omega
theorem SP.up (h : SP B x g L k ats I) : SP B x g L (k + 1) ats I := { h with bd := by have := h.bd; omega }
theorem SP.pin_same (h : SP B x g L k ats I) {t : Nat} (ht : t < 8) (hp : ∃ y, y ∈ g.S ∧ y.task = (t : Int)) : SP B { x with pin := set8 x.pin t true } g L (k + 1) ats I := by
  refine { h.up with pn := fun s hs => ?_ }
  show set8 x.pin t true s = true ↔ _
  unfold set8
  split
  · rename_i hst
    subst hst
    simp only [true_iff]
    exact hp
  · exact h.pn s hs
theorem SP.pin (h : SP B x g L k ats I) {t : Nat} (ht : t < 8) : SP B { x with pin := set8 x.pin t true } ⟨g.S ++ [⟨t, g.now + 1, g.c⟩], g.c + 1, g.now + 1⟩ L (k + 1) ats I := by
  refine { h.up with bd := by have := h.bd; simp; omega, pn := fun s hs => ?_, tk := fun y hy => ?_, at' := fun i => by have := h.at' i; show _ ≤ g.now + 1; omega, wt := fun i hi s hs => ?_ }
  · show set8 x.pin t true s = true ↔ ∃ y, y ∈ g.S ++ [⟨t, g.now + 1, g.c⟩] ∧ _
    unfold set8
    split
    · rename_i hst
      subst hst
      simp only [true_iff]
      exact ⟨⟨s, g.now + 1, g.c⟩, by simp, rfl⟩
    · rename_i hst
      rw [h.pn s hs]
      constructor
      · rintro ⟨y, hy, hyt⟩; exact ⟨y, by simp [hy], hyt⟩
      · rintro ⟨y, hy, hyt⟩
        rcases List.mem_append.1 hy with hy | hy
        · exact ⟨y, hy, hyt⟩
        · simp at hy; subst hy; simp at hyt; omega
  · replace hy : y ∈ g.S ++ [⟨t, g.now + 1, g.c⟩] := hy
    rcases List.mem_append.1 hy with hy | hy
    · have := h.tk y hy
      exact ⟨this.1, by show _ ≤ g.now + 1; omega⟩
    · simp at hy; subst hy; exact ⟨⟨t, ht, rfl⟩, Nat.le_refl _⟩
  · show _ ↔ ∃ y, y ∈ g.S ++ [⟨t, g.now + 1, g.c⟩] ∧ _
    rw [h.wt i hi s hs]
    constructor
    · rintro ⟨y, hy, hyt⟩; exact ⟨y, by simp [hy], hyt⟩
    · rintro ⟨y, hy, hyt, hya⟩
      rcases List.mem_append.1 hy with hy | hy
      · exact ⟨y, hy, hyt, hya⟩
      · simp at hy; subst hy
        have := h.at' i
        simp only at hya
        omega
theorem getD_map8 (l : List B8) (t i : Nat) (hi : i < l.length) : (l.map fun p => set8 p t false).getD i none8 = set8 (l.getD i none8) t false := by
  simp [List.getD_eq_getElem?_getD, List.getElem?_eq_getElem hi]
theorem SP.unpin (h : SP B x g L k ats I) {t : Nat} (ht : t < 8) : SP B { x with pin := set8 x.pin t false, waits := x.waits.map fun p => set8 p t false } ⟨dropTask t g.S, g.c, g.now⟩ L (k + 1) ats I := by
  have hdl : (dropTask t g.S).length ≤ g.S.length := List.length_filter_le _ _
  have hm : ∀ y, y ∈ dropTask t g.S ↔ y ∈ g.S ∧ y.task ≠ t := fun y => by simp [dropTask]
  have hset : ∀ (p : B8) (s : Nat) (Q R : Prop), (p s = true ↔ Q) → (s = t → ¬ R) → (s ≠ t → (Q ↔ R)) → (set8 p t false s = true ↔ R) := by
    intro p s Q R h1 h2 h3
    unfold set8
    split
    · rename_i hst
      simp only [Bool.false_eq_true, false_iff]
      exact h2 hst
    · rename_i hst
      rw [h1]
      exact h3 hst
  refine { h.up with lw := by show (x.waits.map _).length = _; rw [List.length_map]; exact h.lw, bd := by have := h.bd; simp; omega, pn := fun s hs => ?_, tk := fun y hy => h.tk y ((hm y).1 hy).1, wt := fun i hi s hs => ?_ }
  · refine hset x.pin s _ _ (h.pn s hs) (fun e => ?_) (fun e => ?_)
    · subst e
      rintro ⟨y, hy, hyt⟩
      exact ((hm y).1 hy).2 hyt
    · constructor
      · rintro ⟨y, hy, hyt⟩; exact ⟨y, (hm y).2 ⟨hy, by rw [hyt]; omega⟩, hyt⟩
      · rintro ⟨y, hy, hyt⟩; exact ⟨y, ((hm y).1 hy).1, hyt⟩
  · show ((x.waits.map fun p => set8 p t false).getD i none8) s = true ↔ _
    rw [getD_map8 _ _ _ (by rw [h.lw]; exact hi)]
    refine hset _ s _ _ (h.wt i hi s hs) (fun e => ?_) (fun e => ?_)
    · subst e
      rintro ⟨y, hy, hyt, _⟩
      exact ((hm y).1 hy).2 hyt
    · constructor
      · rintro ⟨y, hy, hyt, hya⟩; exact ⟨y, (hm y).2 ⟨hy, by rw [hyt]; omega⟩, hyt, hya⟩
      · rintro ⟨y, hy, hyt, hya⟩; exact ⟨y, ((hm y).1 hy).1, hyt, hya⟩
theorem getD_snoc_lt {α : Type} (l : List α) (a d : α) (i : Nat) (hi : i < l.length) : (l ++ [a]).getD i d = l.getD i d := by
  simp [List.getD_eq_getElem?_getD, List.getElem?_append_left hi]
theorem getD_snoc_eq {α : Type} (l : List α) (a d : α) : (l ++ [a]).getD l.length d = a := by
  simp [List.getD_eq_getElem?_getD]
theorem SP.retire (h : SP B x g L k ats I) (nb : Nat) : SP B { x with waits := x.waits ++ [x.pin], ran := x.ran ++ [0], nbs := x.nbs ++ [nb] } g (L ++ [⟨24, capsS B nb, g.now⟩]) (k + 1) (ats ++ [g.now]) (I ++ [x.nbs.length]) := by
  have hla := h.la
  refine ⟨h.wr, by simp [h.lw], by simp [h.lr], by simp [h.la], by have := h.bd; simp; omega, h.pn, h.tk, fun i => ?_, fun i hi t ht => ?_, ?_, ?_, fun i hi => ?_, fun i hi => ?_⟩
  · rcases Nat.lt_trichotomy i ats.length with hl | hl | hl
    · rw [getD_snoc_lt _ _ _ _ hl]; exact h.at' i
    · subst hl; rw [getD_snoc_eq]; exact Nat.le_refl _
    · rw [List.getD_eq_getElem?_getD, List.getElem?_eq_none (by simp; omega)]; exact Nat.zero_le _
  · replace hi : i < (x.nbs ++ [nb]).length := hi
    simp at hi
    show ((x.waits ++ [x.pin]).getD i none8) t = true ↔ _
    by_cases hl : i < x.nbs.length
    · rw [getD_snoc_lt _ _ _ _ (by rw [h.lw]; exact hl), getD_snoc_lt _ _ _ _ (by rw [h.la]; exact hl)]
      exact h.wt i hl t ht
    · obtain rfl : i = x.nbs.length := by omega
      rw [show (x.waits ++ [x.pin]).getD x.nbs.length none8 = x.pin by rw [← h.lw]; exact getD_snoc_eq _ _ _, show (ats ++ [g.now]).getD x.nbs.length 0 = g.now by rw [← h.la]; exact getD_snoc_eq _ _ _, h.pn t ht]
      constructor
      · rintro ⟨y, hy, hyt⟩; exact ⟨y, hy, hyt, (h.tk y hy).2⟩
      · rintro ⟨y, hy, hyt, _⟩; exact ⟨y, hy, hyt⟩
  · rw [List.map_append, h.eL]
    congr 1
    · refine List.map_congr_left fun i hi => ?_
      have hl := h.lI i hi
      simp only [mkR]
      rw [getD_snoc_lt _ _ _ _ hl, getD_snoc_lt _ _ _ _ (by rw [h.la]; exact hl)]
    · simp only [List.map_cons, List.map_nil, mkR]
      rw [getD_snoc_eq, show (ats ++ [g.now]).getD x.nbs.length 0 = g.now by rw [← h.la]; exact getD_snoc_eq _ _ _]
  · rw [List.pairwise_append]
    refine ⟨h.pI, by simp, fun a ha b hb => ?_⟩
    simp at hb
    subst hb
    exact h.lI a ha
  · show i < (x.nbs ++ [nb]).length
    rcases List.mem_append.1 hi with hi | hi
    · have := h.lI i hi; simp; omega
    · simp at hi; subst hi; simp
  · replace hi : i < (x.nbs ++ [nb]).length := hi
    simp at hi
    show (x.ran ++ [0]).getD i 0 = _
    by_cases hl : i < x.nbs.length
    · rw [getD_snoc_lt _ _ _ _ (by rw [h.lr]; exact hl), h.rn i hl]
      have : i ≠ x.nbs.length := by omega
      simp [this]
    · obtain rfl : i = x.nbs.length := by omega
      rw [show (x.ran ++ [(0 : Int)]).getD x.nbs.length 0 = (0 : Int) by rw [← h.lr]; exact getD_snoc_eq _ _ _]
      simp
theorem wrap_one' : wrap64 1 = 1 := by kernel_rfl
/-- Collect. -/
theorem SP.collect {x' : SafeSt} {g' : EpG} {kept later : List Ret} {n : Nat} (h : SP B x g L k ats I) (hc : Coll (Rsafe B) x g L x' g' kept later n) (hnd : x.nbs.Nodup) :
    g' = g ∧ later = [] ∧ n + kept.length = L.length ∧ x'.nbs = x.nbs ∧ ∃ I', SP B x' g kept (k + 1) ats I' ∧ ∀ i, i ∈ I → (∀ y, y ∈ g.S → ats.getD i 0 < y.t) → i ∉ I' := by
  obtain ⟨rfl, rfl, p1, p2, p3, p4, p5, I', q1, q2, q3, q4, q5⟩ := safe_coll ats hc hnd h.lr h.ripe h.wr I h.eL (h.pI.imp (fun hab => Nat.ne_of_lt hab)) h.lI
  refine ⟨rfl, rfl, by rw [h.eL, q1]; simp; omega, p3, I', ?_, q4⟩
  refine ⟨p4, by rw [p2, p3]; exact h.lw, by rw [p5, p3]; exact h.lr, by rw [p3]; exact h.la, by rw [p3]; have := h.bd; omega, by rw [p1]; exact h.pn, h.tk, h.at', by rw [p2, p3]; exact h.wt, by rw [p3]; exact q1, h.pI.sublist q2, by rw [p3]; exact fun i hi => h.lI i (q2.subset hi), fun i hi => ?_⟩
  rw [p3] at hi
  rw [q5 i, h.rn i hi]
  by_cases h1 : i ∈ I
  · by_cases h2 : i ∈ I'
    · simp [h1, h2]
    · simp [h1, h2, wrap_one']
  · have h2 : i ∉ I' := fun hh => h1 (q2.subset hh)
    simp [h1, h2]
end Go.Proofs.Ytidiefcgepllmaa
