/- The law EpochPlays: its functions as Collect's premise; the law's world. -/
import Derived.Test.YtidiefcgepllmaaPlaysC
namespace Go.Proofs.Ytidiefcgepllmaa
open Go.RowKit
theorem PlOf.uniq {B : PB} {x : PlSt} {s : PS} {O : List Nat} {w : World} (h : PlOf B x s) (hJ : Jps B s O w) : ∀ (i j : Nat) (b : Nat × Nat × Nat), x.bx[i]? = some b → x.bx[j]? = some b → i = j := by
  obtain ⟨ρ, rv, av, hJ⟩ := hJ
  intro i j b hi hj
  have h1 := (hJ.box _ (h.box i b hi).2.1).2.2
  have h2 := (hJ.box _ (h.box j b hj).2.1).2.2
  rw [h1] at h2
  simp at h2
  omega
/-- Another one was retired. -/
theorem PlOf.retire {B : PB} {x : PlSt} {s : PS} (h : PlOf B x s) (a : A4) (y : Nat × Nat × Nat) :
    PlOf B { x with acts := x.acts ++ [a], bx := x.bx ++ [y] } { s with acts := s.acts ++ [a], cnt := s.cnt + 1, bs := ((s.bs ++ [(y.1, Obj.cells #[.pointer (some ⟨B.xb, 0, none⟩)] 31)]) ++ [(y.2.2, Obj.cells #[.int .i64 a.d, .int .i64 a.t, .int .i64 a.h] 39)]) ++ [(y.2.1, Obj.cells #[.int .i64 s.cnt] 3)] } := by
  refine ⟨h.P, h.RL, h.ran, by show s.acts ++ [a] = _; rw [h.acts], by show s.cnt + 1 = _; rw [h.cnt]; simp, by simp [h.len], fun i b hi => ?_, fun p hp => by simp [h.xt p hp]⟩
  by_cases hl : i < x.bx.length
  · rw [List.getElem?_append_left hl] at hi
    obtain ⟨h1, h2, a', h3, h4⟩ := h.box i b hi
    exact ⟨by simp [h1], by simp [h2], a', by rw [List.getElem?_append_left (List.getElem?_eq_some_iff.1 h3).1]; exact h3, by simp [h4]⟩
  · rw [List.getElem?_append_right (by omega)] at hi
    rcases hj : i - x.bx.length with _ | j
    · rw [hj] at hi
      simp at hi
      subst hi
      have hil : i = x.acts.length := by have := h.len; omega
      subst hil
      exact ⟨by simp, by rw [← h.cnt]; simp, a, by simp, by simp [actCell]⟩
    · rw [hj] at hi; simp at hi
def okP (NB : List (Nat × Nat × Nat)) (k : Nat) (x : PlSt) (g : EpG) : Prop := (∀ b, b ∈ NB → b ∈ x.bx) ∧ x.acts.length + k ≤ 100000 ∧ x.ran.length + k ≤ 100000 ∧ g.now + k ≤ 1000000
theorem thenG_now (a : A4) (g : EpG) : (thenG a g).now ≤ g.now + 1 := by
  unfold thenG pinG unpinG
  split
  · split <;> simp
  · split <;> simp
theorem clo_plays (B : PB) (m : Nat) (NB : List (Nat × Nat × Nat)) : Clo (Jpl B) Rpl B.base B.e m (fun r => r.f = 35 ∧ ∃ b, b ∈ NB ∧ r.caps = capsP b) 100000 (okP NB) where
  stab := fun x O w w' T h hu hT => h.stab hu hT
  lt := by
    rintro x O w ⟨s, _, hJ⟩
    exact hJ.lt
  app := by
    rintro r x g x' g' l ⟨i, b, a, _, _, _, _, _, _, _, _, _, _, ⟨_, _, _, rfl⟩ | ⟨_, _, b', _, rfl⟩⟩ <;> simp
  down := fun k x g ⟨h1, h2, h3, h4⟩ => ⟨h1, by omega, by omega, by omega⟩
  okr := by
    rintro r k x g x' g' l ⟨i, b, a, _, _, _, _, _, rfl, _, _, _, h3, h4⟩ ⟨k1, k2, k3, k4⟩
    have hn := thenG_now a g
    rcases h4 with ⟨_, h5, h6, _⟩ | ⟨_, h5, b', h6, _⟩
    · exact ⟨by rw [h6]; exact k1, by rw [h5]; omega, by rw [h3]; simp; omega, by omega⟩
    · exact ⟨fun b hb => by rw [h6]; exact List.mem_append_left _ (k1 b hb), by rw [h5]; simp; omega, by rw [h3]; simp; omega, by omega⟩
  enter := by
    rintro r ⟨h, _⟩
    rw [h]
    exact enters_of Try.func35 (by kernel_rfl) rfl
  run := by
    rintro r ⟨h1, b, hb, h2⟩ x g O v L w hE hL _ ⟨k, k1, k2, k3, k4⟩
    obtain ⟨s, hs, hJ⟩ := hE.rest
    obtain ⟨i, hi⟩ := List.mem_iff_getElem?.1 (k1 b hb)
    obtain ⟨g1, g2, a, g3, g4⟩ := hs.box i b hi
    rw [h1, h2]
    have hacts := hs.acts
    have hran := hs.ran
    have hcnt := hs.cnt
    refine (retire1_any (s := s) ⟨hE.ep, hJ, hE.de, hE.dm, hE.dv⟩ i b.1 b.2.2 b.2.1 a g1 g2 g4 (by omega) (by omega) (by rw [hran]; omega) (by rw [hacts]; omega) (by omega) (by omega)).mono ?_
    rintro z w' ⟨rfl, ⟨h3, hS⟩ | ⟨h3, y, hS⟩⟩
    · obtain ⟨v', O', h4, h5, h6⟩ := hS
      refine ⟨rfl, v', O', { x with ran := x.ran ++ [(i : Int)] }, thenG a g, [], ⟨?_, ⟨_, ?_, h4.rest⟩, h4.de, h4.dm, h4.dv⟩, ⟨i, b, a, hi, h2, fun j hj => hs.uniq hJ j i b hj hi, g3, hs.len, rfl, rfl, rfl, rfl, rfl, .inl ⟨h3, rfl, rfl, rfl⟩⟩, h5, h6⟩
      · rw [List.append_nil]; exact h4.ep
      · exact ⟨hs.P, hs.RL, by show s.ran ++ _ = _; rw [hs.ran], hs.acts, hs.cnt, hs.len, hs.box, hs.xt⟩
    · obtain ⟨v', O', h4, h5, h6⟩ := hS
      have hR := hs.retire ⟨2, 0, 0⟩ y
      refine ⟨rfl, v', O', { x with ran := x.ran ++ [(i : Int)], acts := x.acts ++ [⟨2, 0, 0⟩], bx := x.bx ++ [y] }, g, [⟨35, capsP y, g.now⟩], ⟨h4.ep, ⟨_, ?_, h4.rest⟩, h4.de, h4.dm, h4.dv⟩, ⟨i, b, a, hi, h2, fun j hj => hs.uniq hJ j i b hj hi, g3, hs.len, ?_, rfl, rfl, rfl, rfl, .inr ⟨h3, rfl, y, rfl, rfl⟩⟩, h5, h6⟩
      · exact ⟨hR.P, hR.RL, by show s.ran ++ _ = _; rw [hs.ran], hR.acts, hR.cnt, hR.len, hR.box, hR.xt⟩
      · unfold thenG
        rw [h3]
        rfl
section
variable {B : PB} {m : Nat} {w0 w w' : World} {x x' : PlSt} {g g' : EpG} {b b' : Bool} {L L' : List Ret}
abbrev EWP (B : PB) (m : Nat) (w0 w : World) (x : PlSt) (g : EpG) (b : Bool) (L : List Ret) : Prop := EW (Jpl B) B.base B.e m w0 w x g b L
theorem EWP.opens (h : EWP B m w0 w x g b L) : ∃ v O s, PlOf B x s ∧ EP B m w v O s g b L ∧ ∀ w' s' x' g' L', ES B m w v O w' s' g' b L' → PlOf B x' s' → EWP B m w0 w' x' g' b L' := by
  obtain ⟨v, O, h⟩ := h
  obtain ⟨s, hs, hJ⟩ := h.ej.rest
  refine ⟨v, O, s, hs, ⟨h.ej.ep, hJ, h.ej.de, h.ej.dm, h.ej.dv⟩, fun w' s' x' g' L' ⟨v', O', h1, h2, h3⟩ hx => ?_⟩
  exact ⟨v', O', h.step ⟨h1.ep, ⟨s', hx, h1.rest⟩, h1.de, h1.dm, h1.dv⟩ h2 h3⟩
theorem EWP.uniq (h : EWP B m w0 w x g b L) : ∀ (i j : Nat) (b : Nat × Nat × Nat), x.bx[i]? = some b → x.bx[j]? = some b → i = j := by
  obtain ⟨v, O, s, hs, hE, _⟩ := h.opens
  exact hs.uniq hE.rest
theorem EWP.len (h : EWP B m w0 w x g b L) : x.bx.length = x.acts.length := by
  obtain ⟨v, O, s, hs, hE, _⟩ := h.opens
  exact hs.len
/-- The law's struct at hand. -/
structure WOpen (B : PB) (x : PlSt) (w : World) (rv av : Value) : Prop where
  c0 : w.cell? ⟨B.xb, 0, none⟩ = some (.pointer (some ⟨B.e, 0, none⟩))
  c1 : w.cell? ⟨B.xb, 1, none⟩ = some (.pointer (some ⟨B.wp, 0, none⟩))
  c2 : w.cell? ⟨B.xb, 2, none⟩ = some rv
  c3 : w.cell? ⟨B.xb, 3, none⟩ = some av
  c4 : w.cell? ⟨B.xb, 4, none⟩ = some (.int .i64 x.acts.length)
  c5 : w.cell? ⟨B.xb, 5, none⟩ = some (.bool false)
  lt : B.xb < w.heap.size
  ran : Row B.base 3 1 intCell w rv x.ran
  act : Row B.base 39 3 actCell w av x.acts
theorem EWP.wopen (h : EWP B m w0 w x g b L) : ∃ ra rc aa ac, WOpen B x w (.slice ra x.ran.length rc) (.slice aa x.acts.length ac) := by
  obtain ⟨v, O, s, hs, hE, _⟩ := h.opens
  obtain ⟨rv, av, ho⟩ := hE.opens
  have h1 := ho.ran
  have h2 := ho.act
  rw [hs.ran] at h1
  rw [hs.acts] at h2
  obtain ⟨ra, rc, rfl⟩ := h1.shape
  obtain ⟨aa, ac, rfl⟩ := h2.shape
  exact ⟨ra, rc, aa, ac, ho.c0, ho.c1, ho.c2, ho.c3, by rw [← hs.cnt]; exact ho.c4, ho.c5, ho.lt, h1, h2⟩
theorem EWP.retire (h : EWP B m w0 w x g b L) (a : A4) (ha : x.acts.length ≤ 100000) (hL : L.length < 1000000) :
    Calls Try.prog 22 #[.pointer (some ⟨B.xb, 0, none⟩), .agg #[.int .i64 a.d, .int .i64 a.t, .int .i64 a.h]] w fun z w' => z = .returned (.bool true) ∧ ∃ y, EWP B m w0 w' { x with acts := x.acts ++ [a], bx := x.bx ++ [y] } g b (L ++ [⟨35, capsP y, g.now⟩]) := by
  obtain ⟨v, O, s, hs, hE, hF⟩ := h.opens
  have hcnt := hs.cnt
  refine (retire4_any hE a ⟨by omega, by omega⟩ (by rw [hs.acts]; exact ha) hL).mono ?_
  rintro z w' ⟨y, rfl, hS⟩
  exact ⟨rfl, y, hF _ _ _ _ _ hS (hs.retire a y)⟩
theorem EWP.alloc (h : EWP B m w0 w x g b L) (o : Obj) : EWP B m w0 (w.alloc o) { x with xt := x.xt ++ [(w.heap.size, o)] } g b L := by
  obtain ⟨v, O, s, hs, hE, hF⟩ := h.opens
  exact hF _ _ _ _ _ (hE.alloc o) ⟨hs.P, hs.RL, hs.ran, hs.acts, hs.cnt, hs.len, fun i b hi => by
    obtain ⟨h1, h2, a, h3, h4⟩ := hs.box i b hi
    exact ⟨List.mem_append_left _ h1, List.mem_append_left _ h2, a, h3, List.mem_append_left _ h4⟩, fun p hp => by
    rcases List.mem_append.1 hp with hp | hp
    · exact List.mem_append_left _ (hs.xt p hp)
    · exact List.mem_append_right _ hp⟩
theorem EWP.box (h : EWP B m w0 w x g b L) {p : Nat × Obj} (hp : p ∈ x.xt) : w.heap[p.1]? = some p.2 := by
  obtain ⟨v, O, s, hs, hE, hF⟩ := h.opens
  obtain ⟨rv, av, ho⟩ := hE.opens
  exact ho.box p (hs.xt p hp)
theorem EWP.drop (h : EWP B m w0 w x g b L) : EWP B m w0 w { x with xt := [] } g b L := by
  obtain ⟨v, O, s, hs, hE, hF⟩ := h.opens
  exact hF _ _ _ _ _ (ES.refl hE) ⟨hs.P, hs.RL, hs.ran, hs.acts, hs.cnt, hs.len, hs.box, by simp⟩
theorem EWP.Pin (h : EWP B m w0 w x g b L) (k : Int) (hn : g.now < 1000000000) {d : Bool} (hd : decide (∃ y, y ∈ g.S ∧ y.task = k) = !d) :
    Calls Try.prog 12 #[.pointer (some ⟨B.e, 0, none⟩), .int .i64 k] w fun z w' => z = .returned (.bool d) ∧ EWP B m w0 w' x (pinG k g) b L := by
  obtain ⟨v, O, s, hs, hE, hF⟩ := h.opens
  refine (hE.Pin k hn hd).mono ?_
  rintro z w' ⟨rfl, hS⟩
  exact ⟨rfl, hF _ _ _ _ _ hS hs⟩
theorem EWP.Unpin (h : EWP B m w0 w x g b L) (k : Int) {d : Bool} (hd : decide (∃ y, y ∈ g.S ∧ y.task = k) = d) :
    Calls Try.prog 15 #[.pointer (some ⟨B.e, 0, none⟩), .int .i64 k] w fun z w' => z = .returned (.bool d) ∧ EWP B m w0 w' x (unpinG k g) b L := by
  obtain ⟨v, O, s, hs, hE, hF⟩ := h.opens
  refine (hE.Unpin k hd).mono ?_
  rintro z w' ⟨rfl, hS⟩
  exact ⟨rfl, hF _ _ _ _ _ hS hs⟩
theorem EWP.doc (h : EWP B m w0 w x g b L) : ∃ O2, RefJ B.base B.wp x.P x.RL O2 w ∧ ∀ P' RL' w1, RefEnd B.base B.wp P' RL' O2 w w1 → EWP B m w0 w1 { x with P := P', RL := RL' } g b L := by
  obtain ⟨v, O, s, hs, hE, hF⟩ := h.opens
  obtain ⟨O2, h1, h2⟩ := hE.doc
  rw [hs.P, hs.RL] at h1
  exact ⟨O2, h1, fun P' RL' w1 hr => hF _ _ _ _ _ (h2 P' RL' w1 hr) ⟨rfl, rfl, hs.ran, hs.acts, hs.cnt, hs.len, hs.box, hs.xt⟩⟩
end
end Go.Proofs.Ytidiefcgepllmaa
