/- The law EpochPlays: the Epoch beside the law's own blocks; a step of both. -/
import Derived.Test.YtidiefcgepllmaaPlaysJ
import Derived.Test.YtidiefcgepllmaaRef4M
namespace Go.Proofs.Ytidiefcgepllmaa
open Go.RowKit
set_option linter.unusedVariables false
abbrev EP (B : PB) (m : Nat) (w : World) (v : Value) (O : List Nat) (s : PS) (g : EpG) (b : Bool) (L : List Ret) : Prop := EJ (Jps B) B.base B.e m w v O s g b L
/-- A step from a world in which the slice that is left is v and the law's blocks lie in O. -/
def ES (B : PB) (m : Nat) (w : World) (v : Value) (O : List Nat) (w' : World) (s' : PS) (g' : EpG) (b : Bool) (L' : List Ret) : Prop :=
  ∃ v' O', EP B m w' v' O' s' g' b L' ∧ Upd (foot B.e m v O) w w' ∧ Grw w (foot B.e m v O) (foot B.e m v' O')
section
variable {B : PB} {m : Nat} {w w1 w2 : World} {v : Value} {O O' T : List Nat} {s s' s2 : PS} {g g' g2 : EpG} {b b' b2 : Bool} {L L' L2 : List Ret}
theorem ES.refl (h : EP B m w v O s g b L) : ES B m w v O w s g b L := ⟨v, O, h, Upd.refl _ _, fun k hk => .inl hk⟩
theorem ES.trans (h : ES B m w v O w1 s g b L) (h2 : ∀ v1 O1, EP B m w1 v1 O1 s g b L → ES B m w1 v1 O1 w2 s' g' b' L') : ES B m w v O w2 s' g' b' L' := by
  obtain ⟨v1, O1, h3, hu, hg⟩ := h
  obtain ⟨v2, O2, h4, hu2, hg2⟩ := h2 v1 O1 h3
  refine ⟨v2, O2, h4, hu.via hu2 hg, fun k hk => ?_⟩
  rcases hg2 k hk with h5 | h5
  · exact hg k h5
  · exact .inr (Nat.le_trans hu.size h5)
theorem Jps.lt (h : Jps B s O w) : ∀ k, k ∈ O → B.base ≤ k ∧ k < w.heap.size := by
  obtain ⟨ρ, rv, av, h⟩ := h
  exact h.lt
theorem EP.low (h : EP B m w v O s g b L) : B.base ≤ w.heap.size := by
  obtain ⟨ρ, rv, av, h⟩ := h.rest
  have := h.lt _ h.xO.1
  omega
theorem EP.rest' (h : EP B m w v O s g b L) (hu : Upd T w w1) (hT : ∀ k, k ∈ T → k ∈ O ∨ w.heap.size ≤ k) (hJ : Jps B s' O' w1) (hO : ∀ k, k ∈ O' → k ∈ O ∨ w.heap.size ≤ k) : ES B m w v O w1 s' g b L := by
  have hel := heap_lt h.ep.at'.blk
  have hml := heap_lt h.ep.at'.map
  have hn : ∀ q, q < w.heap.size → q ∉ O → q ∉ T ∧ q ∉ O' := fun q hq hO' => ⟨fun hh => by
    rcases hT q hh with h5 | h5
    · exact hO' h5
    · omega, fun hh => by
    rcases hO q hh with h5 | h5
    · exact hO' h5
    · omega⟩
  have hv : ∀ q, v.ownBlock = some q → q ∉ T ∧ q ∉ O' := fun q hq => hn q (h.ep.row.lt q hq).2 (h.dv q hq)
  refine ⟨v, O', ⟨h.ep.upd hu (hn _ hel h.de).1 (hn _ hml h.dm).1 (fun q hq => (hv q hq).1), hJ, (hn _ hel h.de).2, (hn _ hml h.dm).2, fun q hq => (hv q hq).2⟩, ⟨hu.os, hu.tape, hu.output, hu.size, fun k hk hk2 => hu.block k hk (fun hh => ?_)⟩, fun k hk => ?_⟩
  · rcases hT k hh with h5 | h5
    · exact hk2 (by simp [foot, h5])
    · omega
  · simp only [foot, List.mem_cons, List.mem_append] at hk ⊢
    rcases hk with hk | hk | hk | hk
    · exact .inl (.inl hk)
    · exact .inl (.inr (.inl hk))
    · exact .inl (.inr (.inr (.inl hk)))
    · rcases hO k hk with h5 | h5
      · exact .inl (.inr (.inr (.inr h5)))
      · exact .inr h5
theorem EP.below (h : EP B m w v O s g b L) (hb : Below w.heap.size w w1) : ES B m w v O w1 s g b L :=
  h.rest' (Upd.of_below (S := []) hb) (by simp) (h.rest.stab (Upd.of_below (S := []) hb) (by simp)) (fun k hk => .inl hk)
/-- A new block that nobody writes. -/
theorem EP.alloc (h : EP B m w v O s g b L) (o : Obj) : ES B m w v O (w.alloc o) { s with bs := s.bs ++ [(w.heap.size, o)] } g b L := by
  have hl := h.low
  obtain ⟨ρ, rv, av, hJ⟩ := h.rest
  refine h.rest' (O' := O ++ [w.heap.size]) ((Upd.refl [] _).alloc _) (by simp) ⟨_, _, _, hJ.alloc hl o⟩ (fun k hk => ?_)
  rcases List.mem_append.1 hk with hk | hk
  · exact .inl hk
  · simp at hk; exact .inr (by omega)
theorem EP.setCnt (h : EP B m w v O s g b L) (c : Int) : ES B m w v O (w.setCell ⟨B.xb, 4, none⟩ (.int .i64 c)) { s with cnt := c } g b L := by
  obtain ⟨ρ, rv, av, hJ⟩ := h.rest
  obtain ⟨h1, h2⟩ := hJ.setCnt c
  exact h.rest' h2 (fun k hk => by simp at hk; subst hk; exact .inl hJ.xO.1) ⟨_, _, _, h1⟩ (fun k hk => .inl hk)
theorem EP.setWrong (h : EP B m w v O s g b L) : ES B m w v O (w.setCell ⟨B.xb, 5, none⟩ (.bool false)) s g b L := by
  obtain ⟨ρ, rv, av, hJ⟩ := h.rest
  obtain ⟨h1, h2⟩ := hJ.setWrong
  exact h.rest' h2 (fun k hk => by simp at hk; subst hk; exact .inl hJ.xO.1) ⟨_, _, _, h1⟩ (fun k hk => .inl hk)
/-- The law's struct at hand. -/
structure POpen (B : PB) (s : PS) (w : World) (rv av : Value) : Prop where
  c0 : w.cell? ⟨B.xb, 0, none⟩ = some (.pointer (some ⟨B.e, 0, none⟩))
  c1 : w.cell? ⟨B.xb, 1, none⟩ = some (.pointer (some ⟨B.wp, 0, none⟩))
  c2 : w.cell? ⟨B.xb, 2, none⟩ = some rv
  c3 : w.cell? ⟨B.xb, 3, none⟩ = some av
  c4 : w.cell? ⟨B.xb, 4, none⟩ = some (.int .i64 s.cnt)
  c5 : w.cell? ⟨B.xb, 5, none⟩ = some (.bool false)
  fr : ∀ i, w.frozen? ⟨B.xb, i, none⟩ = false
  lt : B.xb < w.heap.size
  ran : Row B.base 3 1 intCell w rv s.ran
  act : Row B.base 39 3 actCell w av s.acts
  box : ∀ p, p ∈ s.bs → w.heap[p.1]? = some p.2
theorem PJ.opens {ρ : Nat → Nat} {rv av : Value} (h : PJ B s ρ O w rv av) : POpen B s w rv av :=
  ⟨by rw [cell_of_heap h.blk]; rfl, by rw [cell_of_heap h.blk]; rfl, by rw [cell_of_heap h.blk]; rfl, by rw [cell_of_heap h.blk]; rfl, by rw [cell_of_heap h.blk]; rfl, by rw [cell_of_heap h.blk]; rfl, fun i => frozen_of_heap h.blk i, heap_lt h.blk, h.ran, h.act, fun p hp => (h.box p hp).2.2⟩
theorem EP.opens (h : EP B m w v O s g b L) : ∃ rv av, POpen B s w rv av := by
  obtain ⟨ρ, rv, av, hJ⟩ := h.rest
  exact ⟨rv, av, hJ.opens⟩
theorem ES.comp {v1 : Value} {O1 : List Nat} (hu : Upd (foot B.e m v O) w w1) (hg : Grw w (foot B.e m v O) (foot B.e m v1 O1)) (h2 : ES B m w1 v1 O1 w2 s' g' b' L') : ES B m w v O w2 s' g' b' L' := by
  obtain ⟨v2, O2, h4, hu2, hg2⟩ := h2
  refine ⟨v2, O2, h4, hu.via hu2 hg, fun k hk => ?_⟩
  rcases hg2 k hk with h5 | h5
  · exact hg k h5
  · exact .inr (Nat.le_trans hu.size h5)
/-- An append to the one of the law's rows: what stays, and what a store of the new slice leaves. -/
theorem EP.ranApp (h : EP B m w v O s g b L) : ∃ rv av, POpen B s w rv av ∧
    (∀ w1, Upd rv.ownBlock.toList w w1 → w1.cell? ⟨B.xb, 2, none⟩ = some rv ∧ w1.frozen? ⟨B.xb, 2, none⟩ = false ∧ B.xb < w1.heap.size ∧ ∀ p, p ∈ s.bs → w1.heap[p.1]? = some p.2) ∧
    ∀ w1 rv' R, Upd rv.ownBlock.toList w w1 → Row B.base 3 1 intCell w1 rv' R → (∀ q, rv'.ownBlock = some q → rv.ownBlock = some q ∨ w.heap.size ≤ q) → ES B m w v O (w1.setCell ⟨B.xb, 2, none⟩ rv') { s with ran := R } g b L := by
  obtain ⟨ρ, rv, av, hJ⟩ := h.rest
  refine ⟨rv, av, hJ.opens, fun w1 hu => ?_, fun w1 rv' R hu hr hn => ?_⟩
  · have hx : B.xb ∉ rv.ownBlock.toList := fun hh => by have := (hJ.rO _ (mem_own hh)).2; rw [hJ.xO.2] at this; cases this
    have hb := hu.heap hJ.blk hx
    refine ⟨by rw [cell_of_heap hb]; rfl, frozen_of_heap hb 2, heap_lt hb, fun p hp => hu.heap (hJ.box p hp).2.2 (fun hh => ?_)⟩
    have := (hJ.rO _ (mem_own hh)).2
    rw [(hJ.box p hp).2.1] at this
    cases this
  · obtain ⟨h1, h2⟩ := hJ.setRan hu hr hn
    refine h.rest' h2 (fun k hk => ?_) ⟨_, _, _, h1⟩ (fun k hk => ?_)
    · rcases List.mem_cons.1 hk with rfl | hk
      · exact .inl hJ.xO.1
      · exact .inl (hJ.rO _ (mem_own hk)).1
    · rcases List.mem_append.1 hk with hk | hk
      · exact .inl hk
      · rcases hn k (mem_own hk) with h5 | h5
        · exact .inl (hJ.rO _ h5).1
        · exact .inr h5
theorem EP.actApp (h : EP B m w v O s g b L) : ∃ rv av, POpen B s w rv av ∧
    (∀ w1, Upd av.ownBlock.toList w w1 → w1.cell? ⟨B.xb, 3, none⟩ = some av ∧ w1.frozen? ⟨B.xb, 3, none⟩ = false ∧ B.xb < w1.heap.size ∧ ∀ p, p ∈ s.bs → w1.heap[p.1]? = some p.2) ∧
    ∀ w1 av' R, Upd av.ownBlock.toList w w1 → Row B.base 39 3 actCell w1 av' R → (∀ q, av'.ownBlock = some q → av.ownBlock = some q ∨ w.heap.size ≤ q) → ES B m w v O (w1.setCell ⟨B.xb, 3, none⟩ av') { s with acts := R } g b L := by
  obtain ⟨ρ, rv, av, hJ⟩ := h.rest
  refine ⟨rv, av, hJ.opens, fun w1 hu => ?_, fun w1 av' R hu hr hn => ?_⟩
  · have hx : B.xb ∉ av.ownBlock.toList := fun hh => by have := (hJ.aO _ (mem_own hh)).2; rw [hJ.xO.2] at this; cases this
    have hb := hu.heap hJ.blk hx
    refine ⟨by rw [cell_of_heap hb]; rfl, frozen_of_heap hb 3, heap_lt hb, fun p hp => hu.heap (hJ.box p hp).2.2 (fun hh => ?_)⟩
    have := (hJ.aO _ (mem_own hh)).2
    rw [(hJ.box p hp).2.1] at this
    cases this
  · obtain ⟨h1, h2⟩ := hJ.setAct hu hr hn
    refine h.rest' h2 (fun k hk => ?_) ⟨_, _, _, h1⟩ (fun k hk => ?_)
    · rcases List.mem_cons.1 hk with rfl | hk
      · exact .inl hJ.xO.1
      · exact .inl (hJ.aO _ (mem_own hk)).1
    · rcases List.mem_append.1 hk with hk | hk
      · exact .inl hk
      · rcases hn k (mem_own hk) with h5 | h5
        · exact .inl (hJ.aO _ h5).1
        · exact .inr h5
/-- The document's functions. -/
theorem EP.doc (h : EP B m w v O s g b L) : ∃ O2, RefJ B.base B.wp s.P s.RL O2 w ∧ ∀ P' RL' w1, RefEnd B.base B.wp P' RL' O2 w w1 → ES B m w v O w1 { s with P := P', RL := RL' } g b L := by
  obtain ⟨ρ, rv, av, hJ⟩ := h.rest
  obtain ⟨O2, h1, h2⟩ := hJ.ref
  refine ⟨O2, h1, fun P' RL' w1 hr => ?_⟩
  obtain ⟨O', g1, g2, g3⟩ := hJ.doc h2 hr
  exact h.rest' g2 (fun k hk => .inl hk) ⟨_, _, _, g1⟩ g3
/-! ### The package's functions -/
theorem EP.Pin (h : EP B m w v O s g b L) (k : Int) (hn : g.now < 1000000000) {d : Bool} (hd : decide (∃ y, y ∈ g.S ∧ y.task = k) = !d) :
    Calls Try.prog 12 #[.pointer (some ⟨B.e, 0, none⟩), .int .i64 k] w fun z w' => z = .returned (.bool d) ∧ ES B m w v O w' s (pinG k g) b L := by
  by_cases hk : ∃ y, y ∈ g.S ∧ y.task = k
  · refine (epPin_no B.base B.e m v g.S g.c g.now b L k w h.ep hk).mono ?_
    rintro z w' ⟨rfl, rfl⟩
    rw [decide_eq_true hk] at hd
    refine ⟨by cases d <;> simp at hd ⊢, ?_⟩
    rw [show pinG k g = g from if_pos hk]
    exact ES.refl h
  · have hk' : ∀ y, y ∈ g.S → y.task ≠ k := fun y hy hh => hk ⟨y, hy, hh⟩
    refine (epPin_yes B.base B.e m v g.S g.c g.now b L k w h.ep hk' hn).mono ?_
    rintro z w' ⟨rfl, hE, hu⟩
    rw [decide_eq_false hk] at hd
    refine ⟨by cases d <;> simp at hd ⊢, ?_⟩
    rw [show pinG k g = ⟨g.S ++ [⟨k, g.now + 1, g.c⟩], g.c + 1, g.now + 1⟩ from if_neg hk]
    exact ⟨v, O, ⟨hE, h.rest.stab hu (by simp; exact ⟨h.de, h.dm⟩), h.de, h.dm, h.dv⟩, hu.mono (by simp [foot]), fun k hk => .inl hk⟩
theorem EP.Unpin (h : EP B m w v O s g b L) (k : Int) {d : Bool} (hd : decide (∃ y, y ∈ g.S ∧ y.task = k) = d) :
    Calls Try.prog 15 #[.pointer (some ⟨B.e, 0, none⟩), .int .i64 k] w fun z w' => z = .returned (.bool d) ∧ ES B m w v O w' s (unpinG k g) b L := by
  refine (epUnpin_any B.base B.e m v g.S g.c g.now b L k d w h.ep hd).mono ?_
  rintro z w' ⟨rfl, hE, hu⟩
  exact ⟨rfl, v, O, ⟨hE, h.rest.stab hu (by simp; exact h.dm), h.de, h.dm, h.dv⟩, hu.mono (by simp [foot]), fun k hk => .inl hk⟩
theorem EP.Retire (h : EP B m w v O s g b L) (F : FuncId) (caps : Array Value) (hL : L.length < 1000000) :
    Calls Try.prog 13 #[.pointer (some ⟨B.e, 0, none⟩), .func (.func F) #[] caps] w fun z w' => z = .returned (.bool true) ∧ ES B m w v O w' s g b (L ++ [⟨F, caps, g.now⟩]) := by
  have hlt := h.rest.lt
  refine (epRetire_any B.base B.e m v g.S g.c g.now b L F caps w h.ep hL h.low).mono ?_
  rintro z w' ⟨rfl, v', hE, hu, hat⟩
  have hn : ∀ q, v'.ownBlock = some q → v.ownBlock = some q ∨ w.heap.size ≤ q := fun q hq => by
    rcases hat with h2 | ⟨q', h2, h3⟩
    · exact .inl (by rw [← h2]; exact hq)
    · rw [h2] at hq; injection hq with hq; subst hq; exact .inr h3
  refine ⟨rfl, v', O, ⟨hE, h.rest.stab hu (fun k hk hO => ?_), h.de, h.dm, fun q hq hO => ?_⟩, hu.mono (fun k hk => ?_), fun k hk => ?_⟩
  · rcases List.mem_cons.1 hk with rfl | hk
    · exact h.de hO
    · exact h.dv _ (mem_own hk) hO
  · rcases hn q hq with h2 | h2
    · exact h.dv q h2 hO
    · have := (hlt q hO).2; omega
  · rcases List.mem_cons.1 hk with rfl | hk
    · simp [foot]
    · simp [foot]; exact .inr (.inr (.inl (mem_own hk)))
  · simp only [foot, List.mem_cons, List.mem_append] at hk ⊢
    rcases hk with hk | hk | hk | hk
    · exact .inl (.inl hk)
    · exact .inl (.inr (.inl hk))
    · rcases hn k (mem_own hk) with h2 | h2
      · exact .inl (.inr (.inr (.inl (by rw [h2]; simp))))
      · exact .inr h2
    · exact .inl (.inr (.inr (.inr hk)))
set_option maxRecDepth 100000 in
theorem EP.Collect_busy (h : EP B m w v O s g true L) : Calls Try.prog 14 #[.pointer (some ⟨B.e, 0, none⟩)] w fun z w' => z = .returned (.int .i64 0) ∧ Below w.heap.size w w' := by
  obtain ⟨c0, c1, c2, c3, cf⟩ := h.ep.at'.cells
  have hel : B.e < w.heap.size := heap_lt h.ep.at'.blk
  clear h
  go_enter Try.func14, Try.ntmps14
  go_wp2_with fail
  go_ret
  exact ⟨rfl, (Below.refl _ _).alloc (Nat.le_refl _) _⟩
end
end Go.Proofs.Ytidiefcgepllmaa
