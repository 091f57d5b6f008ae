/- The law EpochPlays: its own blocks in memory, told apart by a role for each block. -/
import Derived.Test.YtidiefcgepllmaaPlaysL
namespace Go.Proofs.Ytidiefcgepllmaa
open Go.RowKit
def actCell (a : A4) : List Value := [.int .i64 a.d, .int .i64 a.t, .int .i64 a.h]
theorem actCell_one (a : A4) : ∀ y ∈ actCell a, y.oneCell' = true := by
  intro y hy
  simp [actCell] at hy
  rcases hy with rfl | rfl | rfl <;> rfl
/-- What the law's own blocks hold; bs: blocks that nobody writes. -/
structure PS where
  P : List Int
  RL : List (Int × List Int)
  ran : List Int
  acts : List A4
  cnt : Int
  bs : List (Nat × Obj)
/-- Where the law's struct, the Epoch and the document's Epoch lie. -/
structure PB where
  base : Nat
  xb : Nat
  e : Nat
  wp : Nat
def wcells (B : PB) (rv av : Value) (cnt : Int) : Array Value := #[.pointer (some ⟨B.e, 0, none⟩), .pointer (some ⟨B.wp, 0, none⟩), rv, av, .int .i64 cnt, .bool false]
/-- A role for each block: 1 the struct, 2 ran, 3 acts, 4 what nobody writes, 5 the document's. -/
structure PJ (B : PB) (s : PS) (ρ : Nat → Nat) (O : List Nat) (w : World) (rv av : Value) : Prop where
  lt : ∀ k, k ∈ O → B.base ≤ k ∧ k < w.heap.size
  xO : B.xb ∈ O ∧ ρ B.xb = 1
  rO : ∀ q, rv.ownBlock = some q → q ∈ O ∧ ρ q = 2
  aO : ∀ q, av.ownBlock = some q → q ∈ O ∧ ρ q = 3
  blk : w.heap[B.xb]? = some (.cells (wcells B rv av s.cnt) 37)
  ran : Row B.base 3 1 intCell w rv s.ran
  act : Row B.base 39 3 actCell w av s.acts
  box : ∀ p, p ∈ s.bs → p.1 ∈ O ∧ ρ p.1 = 4 ∧ w.heap[p.1]? = some p.2
  ref : ∃ O2, RefJ B.base B.wp s.P s.RL O2 w ∧ ∀ k, k ∈ O2 → k ∈ O ∧ ρ k = 5
def Jps (B : PB) (s : PS) (O : List Nat) (w : World) : Prop := ∃ ρ rv av, PJ B s ρ O w rv av
/-- The roles behind a step that made new blocks. -/
def nrole (w : World) (ρ : Nat → Nat) (r : Nat) (k : Nat) : Nat := if k < w.heap.size then ρ k else r
theorem nrole_old {w : World} {ρ : Nat → Nat} {r k : Nat} (h : k < w.heap.size) : nrole w ρ r k = ρ k := if_pos h
theorem nrole_new {w : World} {ρ : Nat → Nat} {r k : Nat} (h : w.heap.size ≤ k) : nrole w ρ r k = r := if_neg (by omega)
section
variable {B : PB} {s : PS} {ρ : Nat → Nat} {O T : List Nat} {w w1 : World} {rv av : Value}
theorem PJ.upd (h : PJ B s ρ O w rv av) (hu : Upd T w w1) (hT : ∀ k, k ∈ T → k ∉ O) : PJ B s ρ O w1 rv av := by
  have hn : ∀ k, k ∈ O → k ∉ T := fun k hk hh => hT k hh hk
  obtain ⟨O2, h1, h2⟩ := h.ref
  exact ⟨fun k hk => ⟨(h.lt k hk).1, Nat.lt_of_lt_of_le (h.lt k hk).2 hu.size⟩, h.xO, h.rO, h.aO, hu.heap h.blk (hn _ h.xO.1), h.ran.upd hu (fun q hq => hn _ (h.rO q hq).1), h.act.upd hu (fun q hq => hn _ (h.aO q hq).1), fun p hp => ⟨(h.box p hp).1, (h.box p hp).2.1, hu.heap (h.box p hp).2.2 (hn _ (h.box p hp).1)⟩, O2, h1.stab hu (fun k hk hh => hT k hk (h2 k hh).1), h2⟩
/-- 'x.ran = ..'. -/
theorem PJ.setRan (h : PJ B s ρ O w rv av) {rv' : Value} {R : List Int} (hu : Upd rv.ownBlock.toList w w1) (hr : Row B.base 3 1 intCell w1 rv' R) (hn : ∀ q, rv'.ownBlock = some q → rv.ownBlock = some q ∨ w.heap.size ≤ q) :
    PJ B { s with ran := R } (nrole w ρ 2) (O ++ rv'.ownBlock.toList) (w1.setCell ⟨B.xb, 2, none⟩ rv') rv' av ∧ Upd (B.xb :: rv.ownBlock.toList) w (w1.setCell ⟨B.xb, 2, none⟩ rv') := by
  have hx := h.lt _ h.xO.1
  have hxr : B.xb ∉ rv.ownBlock.toList := fun hh => by have := (h.rO _ (mem_own hh)).2; rw [h.xO.2] at this; cases this
  have hs : Upd [B.xb] w1 (w1.setCell ⟨B.xb, 2, none⟩ rv') := (Upd.refl _ _).setCell (p := ⟨B.xb, 2, none⟩) (by simp) _
  have hU : Upd (B.xb :: rv.ownBlock.toList) w (w1.setCell ⟨B.xb, 2, none⟩ rv') := (hu.mono (by simp +contextual)).trans (hs.mono (by simp))
  have hr' : ∀ q, rv'.ownBlock = some q → q ≠ B.xb := fun q hq hh => by
    rcases hn q hq with h1 | h1
    · exact hxr (by rw [h1, hh]; simp)
    · omega
  have hno : ∀ k, k ∈ O → ρ k ≠ 1 → ρ k ≠ 2 → k ∉ B.xb :: rv.ownBlock.toList := fun k hk h1 h2 hh => by
    rcases List.mem_cons.1 hh with rfl | hh
    · exact h1 h.xO.2
    · exact h2 (h.rO _ (mem_own hh)).2
  obtain ⟨O2, g1, g2⟩ := h.ref
  have hsz := hu.size
  have hz := hs.size
  refine ⟨⟨fun k hk => ?_, ⟨List.mem_append_left _ h.xO.1, by rw [nrole_old hx.2]; exact h.xO.2⟩, fun q hq => ⟨List.mem_append_right _ (by rw [hq]; simp), ?_⟩, fun q hq => ⟨List.mem_append_left _ (h.aO q hq).1, by rw [nrole_old (h.lt _ (h.aO q hq).1).2]; exact (h.aO q hq).2⟩, ?_, hr.upd hs (fun q hq hh => by simp at hh; exact hr' q hq hh), h.act.upd hU (fun q hq => hno q (h.aO q hq).1 (by rw [(h.aO q hq).2]; decide) (by rw [(h.aO q hq).2]; decide)), fun p hp => ?_, O2, g1.stab hU (fun k hk hh => hno k (g2 k hh).1 (by rw [(g2 k hh).2]; decide) (by rw [(g2 k hh).2]; decide) hk), fun k hk => ⟨List.mem_append_left _ (g2 k hk).1, by rw [nrole_old (h.lt _ (g2 k hk).1).2]; exact (g2 k hk).2⟩⟩, hU⟩
  · rcases List.mem_append.1 hk with hk | hk
    · have := h.lt k hk; omega
    · have := hr.lt k (mem_own hk); omega
  · rcases hn q hq with h1 | h1
    · rw [nrole_old (h.lt _ (h.rO q h1).1).2]; exact (h.rO q h1).2
    · exact nrole_new h1
  · rw [heap_set_same (hu.heap h.blk hxr)]; rfl
  · obtain ⟨b1, b2, b3⟩ := h.box p hp
    exact ⟨List.mem_append_left _ b1, by rw [nrole_old (h.lt _ b1).2]; exact b2, hU.heap b3 (hno _ b1 (by rw [b2]; decide) (by rw [b2]; decide))⟩
/-- 'x.acts = ..'. -/
theorem PJ.setAct (h : PJ B s ρ O w rv av) {av' : Value} {R : List A4} (hu : Upd av.ownBlock.toList w w1) (hr : Row B.base 39 3 actCell w1 av' R) (hn : ∀ q, av'.ownBlock = some q → av.ownBlock = some q ∨ w.heap.size ≤ q) :
    PJ B { s with acts := R } (nrole w ρ 3) (O ++ av'.ownBlock.toList) (w1.setCell ⟨B.xb, 3, none⟩ av') rv av' ∧ Upd (B.xb :: av.ownBlock.toList) w (w1.setCell ⟨B.xb, 3, none⟩ av') := by
  have hx := h.lt _ h.xO.1
  have hxr : B.xb ∉ av.ownBlock.toList := fun hh => by have := (h.aO _ (mem_own hh)).2; rw [h.xO.2] at this; cases this
  have hs : Upd [B.xb] w1 (w1.setCell ⟨B.xb, 3, none⟩ av') := (Upd.refl _ _).setCell (p := ⟨B.xb, 3, none⟩) (by simp) _
  have hU : Upd (B.xb :: av.ownBlock.toList) w (w1.setCell ⟨B.xb, 3, none⟩ av') := (hu.mono (by simp +contextual)).trans (hs.mono (by simp))
  have hr' : ∀ q, av'.ownBlock = some q → q ≠ B.xb := fun q hq hh => by
    rcases hn q hq with h1 | h1
    · exact hxr (by rw [h1, hh]; simp)
    · omega
  have hno : ∀ k, k ∈ O → ρ k ≠ 1 → ρ k ≠ 3 → k ∉ B.xb :: av.ownBlock.toList := fun k hk h1 h2 hh => by
    rcases List.mem_cons.1 hh with rfl | hh
    · exact h1 h.xO.2
    · exact h2 (h.aO _ (mem_own hh)).2
  obtain ⟨O2, g1, g2⟩ := h.ref
  have hsz := hu.size
  have hz := hs.size
  refine ⟨⟨fun k hk => ?_, ⟨List.mem_append_left _ h.xO.1, by rw [nrole_old hx.2]; exact h.xO.2⟩, fun q hq => ⟨List.mem_append_left _ (h.rO q hq).1, by rw [nrole_old (h.lt _ (h.rO q hq).1).2]; exact (h.rO q hq).2⟩, fun q hq => ⟨List.mem_append_right _ (by rw [hq]; simp), ?_⟩, ?_, h.ran.upd hU (fun q hq => hno q (h.rO q hq).1 (by rw [(h.rO q hq).2]; decide) (by rw [(h.rO q hq).2]; decide)), hr.upd hs (fun q hq hh => by simp at hh; exact hr' q hq hh), fun p hp => ?_, O2, g1.stab hU (fun k hk hh => hno k (g2 k hh).1 (by rw [(g2 k hh).2]; decide) (by rw [(g2 k hh).2]; decide) hk), fun k hk => ⟨List.mem_append_left _ (g2 k hk).1, by rw [nrole_old (h.lt _ (g2 k hk).1).2]; exact (g2 k hk).2⟩⟩, hU⟩
  · rcases List.mem_append.1 hk with hk | hk
    · have := h.lt k hk; omega
    · have := hr.lt k (mem_own hk); omega
  · rcases hn q hq with h1 | h1
    · rw [nrole_old (h.lt _ (h.aO q h1).1).2]; exact (h.aO q h1).2
    · exact nrole_new h1
  · rw [heap_set_same (hu.heap h.blk hxr)]; rfl
  · obtain ⟨b1, b2, b3⟩ := h.box p hp
    exact ⟨List.mem_append_left _ b1, by rw [nrole_old (h.lt _ b1).2]; exact b2, hU.heap b3 (hno _ b1 (by rw [b2]; decide) (by rw [b2]; decide))⟩
/-- 'x.count = ..', and 'x.wrong = false'. -/
theorem PJ.setX (h : PJ B s ρ O w rv av) {c : Int} {i : Nat} {u : Value} (hc : (wcells B rv av s.cnt).setIfInBounds i u = wcells B rv av c) :
    PJ B { s with cnt := c } ρ O (w.setCell ⟨B.xb, i, none⟩ u) rv av ∧ Upd [B.xb] w (w.setCell ⟨B.xb, i, none⟩ u) := by
  have hs : Upd [B.xb] w (w.setCell ⟨B.xb, i, none⟩ u) := (Upd.refl _ _).setCell (p := ⟨B.xb, i, none⟩) (by simp) _
  have hno : ∀ k, ρ k ≠ 1 → k ∉ [B.xb] := fun k h1 hh => by
    simp at hh; subst hh; exact h1 h.xO.2
  obtain ⟨O2, g1, g2⟩ := h.ref
  refine ⟨⟨fun k hk => ⟨(h.lt k hk).1, Nat.lt_of_lt_of_le (h.lt k hk).2 hs.size⟩, h.xO, h.rO, h.aO, ?_, h.ran.upd hs (fun q hq => hno q (by rw [(h.rO q hq).2]; decide)), h.act.upd hs (fun q hq => hno q (by rw [(h.aO q hq).2]; decide)), fun p hp => ?_, O2, g1.stab hs (fun k hk hh => hno k (by rw [(g2 k hh).2]; decide) hk), g2⟩, hs⟩
  · rw [heap_set_same h.blk, hc]
  · obtain ⟨b1, b2, b3⟩ := h.box p hp
    exact ⟨b1, b2, hs.heap b3 (hno _ (by rw [b2]; decide))⟩
theorem PJ.setCnt (h : PJ B s ρ O w rv av) (c : Int) : PJ B { s with cnt := c } ρ O (w.setCell ⟨B.xb, 4, none⟩ (.int .i64 c)) rv av ∧ Upd [B.xb] w (w.setCell ⟨B.xb, 4, none⟩ (.int .i64 c)) := h.setX rfl
theorem PJ.setWrong (h : PJ B s ρ O w rv av) : PJ B s ρ O (w.setCell ⟨B.xb, 5, none⟩ (.bool false)) rv av ∧ Upd [B.xb] w (w.setCell ⟨B.xb, 5, none⟩ (.bool false)) := h.setX (c := s.cnt) rfl
/-- A new block that nobody writes. -/
theorem PJ.alloc (h : PJ B s ρ O w rv av) (hb : B.base ≤ w.heap.size) (o : Obj) : PJ B { s with bs := s.bs ++ [(w.heap.size, o)] } (nrole w ρ 4) (O ++ [w.heap.size]) (w.alloc o) rv av := by
  have hs : Upd [] w (w.alloc o) := (Upd.refl _ _).alloc _
  have h' := h.upd hs (by simp)
  have ho : ∀ k, k ∈ O → nrole w ρ 4 k = ρ k := fun k hk => nrole_old (h.lt k hk).2
  obtain ⟨O2, g1, g2⟩ := h'.ref
  refine ⟨fun k hk => ?_, ⟨List.mem_append_left _ h.xO.1, by rw [ho _ h.xO.1]; exact h.xO.2⟩, fun q hq => ⟨List.mem_append_left _ (h.rO q hq).1, by rw [ho _ (h.rO q hq).1]; exact (h.rO q hq).2⟩, fun q hq => ⟨List.mem_append_left _ (h.aO q hq).1, by rw [ho _ (h.aO q hq).1]; exact (h.aO q hq).2⟩, h'.blk, h'.ran, h'.act, fun p hp => ?_, O2, g1, fun k hk => ⟨List.mem_append_left _ (g2 k hk).1, by rw [ho _ (g2 k hk).1]; exact (g2 k hk).2⟩⟩
  · rcases List.mem_append.1 hk with hk | hk
    · exact h'.lt k hk
    · simp at hk; subst hk; exact ⟨hb, by simp⟩
  · rcases List.mem_append.1 hp with hp | hp
    · obtain ⟨b1, b2, b3⟩ := h'.box p hp
      exact ⟨List.mem_append_left _ b1, by rw [ho _ b1]; exact b2, b3⟩
    · simp at hp; subst hp
      exact ⟨by simp, nrole_new (Nat.le_refl _), heap_alloc_new _ _⟩
/-- A function of the document's Epoch. -/
theorem PJ.doc (h : PJ B s ρ O w rv av) {O2 : List Nat} {P' : List Int} {RL' : List (Int × List Int)} (h2 : ∀ k, k ∈ O2 → k ∈ O ∧ ρ k = 5) (hr : RefEnd B.base B.wp P' RL' O2 w w1) :
    ∃ O', PJ B { s with P := P', RL := RL' } (nrole w ρ 5) O' w1 rv av ∧ Upd O w w1 ∧ ∀ k, k ∈ O' → k ∈ O ∨ w.heap.size ≤ k := by
  obtain ⟨O3, g1, hu, g3⟩ := hr
  have ho : ∀ k, k ∈ O → nrole w ρ 5 k = ρ k := fun k hk => nrole_old (h.lt k hk).2
  have hno : ∀ k, ρ k ≠ 5 → k ∉ O2 := fun k h1 hh => h1 (h2 k hh).2
  have hO3 := g1
  obtain ⟨_, _, _, _, _, _, _, _, _, hlt⟩ := hO3
  refine ⟨O ++ O3, ⟨fun k hk => ?_, ⟨List.mem_append_left _ h.xO.1, by rw [ho _ h.xO.1]; exact h.xO.2⟩, fun q hq => ⟨List.mem_append_left _ (h.rO q hq).1, by rw [ho _ (h.rO q hq).1]; exact (h.rO q hq).2⟩, fun q hq => ⟨List.mem_append_left _ (h.aO q hq).1, by rw [ho _ (h.aO q hq).1]; exact (h.aO q hq).2⟩, hu.heap h.blk (hno _ (by rw [h.xO.2]; decide)), h.ran.upd hu (fun q hq => hno q (by rw [(h.rO q hq).2]; decide)), h.act.upd hu (fun q hq => hno q (by rw [(h.aO q hq).2]; decide)), fun p hp => ?_, O3, g1, fun k hk => ⟨List.mem_append_right _ hk, ?_⟩⟩, hu.mono (fun k hk => (h2 k hk).1), fun k hk => ?_⟩
  · rcases List.mem_append.1 hk with hk | hk
    · exact ⟨(h.lt k hk).1, Nat.lt_of_lt_of_le (h.lt k hk).2 hu.size⟩
    · exact hlt k hk
  · obtain ⟨b1, b2, b3⟩ := h.box p hp
    exact ⟨List.mem_append_left _ b1, by rw [ho _ b1]; exact b2, hu.heap b3 (hno _ (by rw [b2]; decide))⟩
  · rcases g3 k hk with h1 | h1
    · rw [ho _ (h2 k h1).1]; exact (h2 k h1).2
    · exact nrole_new h1
  · rcases List.mem_append.1 hk with hk | hk
    · exact .inl hk
    · rcases g3 k hk with h1 | h1
      · exact .inl (h2 k h1).1
      · exact .inr h1
theorem Jps.stab (h : Jps B s O w) (hu : Upd T w w1) (hT : ∀ k, k ∈ T → k ∉ O) : Jps B s O w1 := by
  obtain ⟨ρ, rv, av, h⟩ := h
  exact ⟨ρ, rv, av, h.upd hu hT⟩
end
/-- The law's state in these blocks. -/
structure PlOf (B : PB) (x : PlSt) (s : PS) : Prop where
  P : s.P = x.P
  RL : s.RL = x.RL
  ran : s.ran = x.ran
  acts : s.acts = x.acts
  cnt : s.cnt = x.acts.length
  len : x.bx.length = x.acts.length
  box : ∀ (i : Nat) (b : Nat × Nat × Nat), x.bx[i]? = some b → (b.1, Obj.cells #[.pointer (some ⟨B.xb, 0, none⟩)] 31) ∈ s.bs ∧ (b.2.1, Obj.cells #[.int .i64 i] 3) ∈ s.bs ∧ ∃ a, x.acts[i]? = some a ∧ (b.2.2, Obj.cells (actCell a).toArray 39) ∈ s.bs
  xt : ∀ p, p ∈ x.xt → p ∈ s.bs
def Jpl (B : PB) (x : PlSt) (O : List Nat) (w : World) : Prop := ∃ s, PlOf B x s ∧ Jps B s O w
theorem Jpl.stab {B : PB} {x : PlSt} {O T : List Nat} {w w1 : World} (h : Jpl B x O w) (hu : Upd T w w1) (hT : ∀ k, k ∈ T → k ∉ O) : Jpl B x O w1 := by
  obtain ⟨s, h1, h2⟩ := h
  exact ⟨s, h1, h2.stab hu hT⟩
end Go.Proofs.Ytidiefcgepllmaa
