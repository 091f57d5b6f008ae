/- The world of a law over an Epoch: the Epoch, the law's own blocks, and each of the package's functions in it. -/
import Derived.Test.YtidiefcgepllmaaEpochCollW
import Derived.Test.YtidiefcgepllmaaEpochPinned
namespace Go.Proofs.Ytidiefcgepllmaa
open Go.RowKit
set_option linter.unusedVariables false
section
variable {σ : Type} {J : σ → List Nat → World → Prop} {R : Ret → σ → EpG → σ → EpG → List Ret → Prop} {A : Ret → Prop} {N : Nat} {ok : Nat → σ → EpG → Prop} {base e m : Nat}
structure EX (J : σ → List Nat → World → Prop) (base e m : Nat) (w0 w : World) (v : Value) (O : List Nat) (x : σ) (g : EpG) (b : Bool) (L : List Ret) : Prop where
  ej : EJ J base e m w v O x g b L
  bel : Below w0.heap.size w0 w
  new : ∀ k, k ∈ foot e m v O → w0.heap.size ≤ k
  siz : base ≤ w.heap.size
def EW (J : σ → List Nat → World → Prop) (base e m : Nat) (w0 w : World) (x : σ) (g : EpG) (b : Bool) (L : List Ret) : Prop := ∃ v O, EX J base e m w0 w v O x g b L
def EWEnd (J : σ → List Nat → World → Prop) (base e m : Nat) (w0 : World) (z : Value) (x : σ) (g : EpG) (b : Bool) (L : List Ret) (q : Ending) (w' : World) : Prop := q = .returned z ∧ EW J base e m w0 w' x g b L
variable {w0 w w1 : World} {x x' : σ} {g g' : EpG} {b : Bool} {L L' : List Ret}
theorem EX.step {v v' : Value} {O O' : List Nat} (h : EX J base e m w0 w v O x g b L) (hE : EJ J base e m w1 v' O' x' g' b L') (hu : Upd (foot e m v O) w w1) (hg : Grw w (foot e m v O) (foot e m v' O')) : EX J base e m w0 w1 v' O' x' g' b L' :=
  ⟨hE, h.bel.trans (hu.below h.bel.size h.new), fun k hk => by
    rcases hg k hk with h1 | h1
    · exact h.new k h1
    · have := h.bel.size; omega, Nat.le_trans h.siz hu.size⟩
theorem EW.below (hC : Clo J R base e m A N ok) (h : EW J base e m w0 w x g b L) (hb : Below w.heap.size w w1) : EW J base e m w0 w1 x g b L := by
  obtain ⟨v, O, h⟩ := h
  exact ⟨v, O, h.step (h.ej.upd hC (Upd.of_below (S := []) hb) (by simp)) ((Upd.of_below (S := []) hb).mono (by simp)) (fun k hk => .inl hk)⟩
theorem EW.bel (h : EW J base e m w0 w x g b L) : Below w0.heap.size w0 w := by
  obtain ⟨v, O, h⟩ := h
  exact h.bel
/-- Pin. -/
theorem EW.Pin_no (hC : Clo J R base e m A N ok) (h : EW J base e m w0 w x g b L) (k : Int) (hk : ∃ y, y ∈ g.S ∧ y.task = k) : Calls Try.prog 12 #[.pointer (some ⟨e, 0, none⟩), .int .i64 k] w (EWEnd J base e m w0 (.bool false) x g b L) := by
  obtain ⟨v, O, h1⟩ := h
  refine (epPin_no base e m v g.S g.c g.now b L k w h1.ej.ep hk).mono ?_
  rintro z w' ⟨rfl, rfl⟩
  exact ⟨rfl, v, O, h1⟩
theorem EW.Pin_yes (hC : Clo J R base e m A N ok) (h : EW J base e m w0 w x g b L) (k : Int) (hk : ∀ y, y ∈ g.S → y.task ≠ k) (hn : g.now < 1000000000) :
    Calls Try.prog 12 #[.pointer (some ⟨e, 0, none⟩), .int .i64 k] w (EWEnd J base e m w0 (.bool true) x ⟨g.S ++ [⟨k, g.now + 1, g.c⟩], g.c + 1, g.now + 1⟩ b L) := by
  obtain ⟨v, O, h1⟩ := h
  refine (epPin_yes base e m v g.S g.c g.now b L k w h1.ej.ep hk hn).mono ?_
  rintro z w' ⟨rfl, hE, hu⟩
  refine ⟨rfl, v, O, h1.step ⟨hE, hC.stab _ _ _ _ _ h1.ej.rest hu (by simp; exact ⟨h1.ej.de, h1.ej.dm⟩), h1.ej.de, h1.ej.dm, h1.ej.dv⟩ (hu.mono (by simp [foot])) (fun k hk => .inl hk)⟩
theorem EW.Unpin (hC : Clo J R base e m A N ok) (h : EW J base e m w0 w x g b L) (k : Int) (d : Bool) (hd : decide (∃ y, y ∈ g.S ∧ y.task = k) = d) :
    Calls Try.prog 15 #[.pointer (some ⟨e, 0, none⟩), .int .i64 k] w (EWEnd J base e m w0 (.bool d) x ⟨dropTask k g.S, g.c, g.now⟩ b L) := by
  obtain ⟨v, O, h1⟩ := h
  refine (epUnpin_any base e m v g.S g.c g.now b L k d w h1.ej.ep hd).mono ?_
  rintro z w' ⟨rfl, hE, hu⟩
  refine ⟨rfl, v, O, h1.step ⟨hE, hC.stab _ _ _ _ _ h1.ej.rest hu (by simp; exact h1.ej.dm), h1.ej.de, h1.ej.dm, h1.ej.dv⟩ (hu.mono (by simp [foot])) (fun k hk => .inl hk)⟩
theorem EW.Retire (hC : Clo J R base e m A N ok) (h : EW J base e m w0 w x g b L) (F : FuncId) (caps : Array Value) (hL : L.length < 1000000) :
    Calls Try.prog 13 #[.pointer (some ⟨e, 0, none⟩), .func (.func F) #[] caps] w (EWEnd J base e m w0 (.bool true) x g b (L ++ [⟨F, caps, g.now⟩])) := by
  obtain ⟨v, O, h1⟩ := h
  have hlt := hC.lt _ _ _ h1.ej.rest
  refine (epRetire_any base e m v g.S g.c g.now b L F caps w h1.ej.ep hL h1.siz).mono ?_
  rintro z w' ⟨rfl, v', hE, hu, hat⟩
  have hn : ∀ q, v'.ownBlock = some q → v.ownBlock = some q ∨ w.heap.size ≤ q := fun q hq => by
    rcases hat with h2 | ⟨q', h2, h3⟩
    · exact .inl (by rw [← h2]; exact hq)
    · rw [h2] at hq; injection hq with hq; subst hq; exact .inr h3
  refine ⟨rfl, v', O, h1.step ⟨hE, hC.stab _ _ _ _ _ h1.ej.rest hu (fun k hk hO => ?_), h1.ej.de, h1.ej.dm, fun q hq hO => ?_⟩ (hu.mono (fun k hk => ?_)) (fun k hk => ?_)⟩
  · rcases List.mem_cons.1 hk with rfl | hk
    · exact h1.ej.de hO
    · exact h1.ej.dv _ (mem_own hk) hO
  · rcases hn q hq with h2 | h2
    · exact h1.ej.dv q h2 hO
    · have := (hlt q hO).2; omega
  · rcases List.mem_cons.1 hk with rfl | hk
    · simp [foot]
    · simp [foot]; exact .inr (.inr (.inl (mem_own hk)))
  · simp only [foot, List.mem_cons, List.mem_append] at hk ⊢
    rcases hk with hk | hk | hk | hk
    · exact .inl (.inl hk)
    · exact .inl (.inr (.inl hk))
    · rcases hn k (mem_own hk) with h2 | h2
      · exact .inl (.inr (.inr (.inl (by rw [h2]; simp))))
      · exact .inr h2
    · exact .inl (.inr (.inr (.inr hk)))
theorem EW.Waiting (hC : Clo J R base e m A N ok) (h : EW J base e m w0 w x g b L) : Calls Try.prog 16 #[.pointer (some ⟨e, 0, none⟩)] w (EWEnd J base e m w0 (.int .i64 L.length) x g b L) := by
  obtain ⟨v, O, h1⟩ := h
  refine (epWaiting_any base e m v g.S g.c g.now b L w h1.ej.ep).mono ?_
  rintro z w' ⟨rfl, rfl⟩
  exact ⟨rfl, v, O, h1⟩
def PinnedEnd (J : σ → List Nat → World → Prop) (base e m : Nat) (w0 w : World) (x : σ) (g : EpG) (b : Bool) (L : List Ret) (q : Ending) (w' : World) : Prop :=
  ∃ a c, q = .returned (.slice a (rising g.S).length c) ∧ Row w.heap.size 3 1 intCell w' (.slice a (rising g.S).length c) (rising g.S) ∧ EW J base e m w0 w' x g b L ∧ Below w.heap.size w w'
theorem EW.Pinned (hC : Clo J R base e m A N ok) (h : EW J base e m w0 w x g b L) (hwf : ∀ y, y ∈ g.S → (Lit.int .i64 y.task).wf = true) (hl : g.S.length ≤ 1000000) : Calls Try.prog 17 #[.pointer (some ⟨e, 0, none⟩)] w (PinnedEnd J base e m w0 w x g b L) := by
  obtain ⟨v, O, h1⟩ := h
  refine (epPinned_any base e m v g.S g.c g.now b L w h1.ej.ep hwf hl).mono ?_
  rintro z w' ⟨v', rfl, hr, hb⟩
  obtain ⟨a, c, rfl⟩ := hr.shape
  exact ⟨a, c, rfl, hr, EW.below hC ⟨v, O, h1⟩ hb, hb⟩
def CollectEnd (J : σ → List Nat → World → Prop) (R : Ret → σ → EpG → σ → EpG → List Ret → Prop) (base e m : Nat) (w0 : World) (x : σ) (g : EpG) (L : List Ret) (q : Ending) (w' : World) : Prop :=
  ∃ n kept later x' g', q = .returned (.int .i64 (n : Nat)) ∧ Coll R x g L x' g' kept later n ∧ EW J base e m w0 w' x' g' false (kept ++ later)
theorem EW.Collect (hC : Clo J R base e m A N ok) (h : EW J base e m w0 w x g false L) (hA : ∀ r, r ∈ L → A r) (hL : 2 * L.length ≤ N) (hN : N ≤ 500000) (hok : ok L.length x g) : Calls Try.prog 14 #[.pointer (some ⟨e, 0, none⟩)] w (CollectEnd J R base e m w0 x g L) := by
  obtain ⟨v, O, h1⟩ := h
  refine (epCollect_any hC x g O v L w h1.ej hA hL hN hok h1.siz).mono ?_
  rintro z w' ⟨n, kept, later, v', O', x', g', rfl, hc, hE, hu, hg⟩
  exact ⟨n, kept, later, x', g', rfl, hc, v', O', h1.step hE hu hg⟩
/-- What a law writes into its own blocks. -/
theorem EW.rest {T : List Nat} (h : EW J base e m w0 w x g b L) (hu : Upd T w w1) (hT : ∀ O, J x O w → ∀ k, k ∈ T → k ∈ O ∨ w.heap.size ≤ k) (hJ : ∀ O, J x O w → ∃ O', J x' O' w1 ∧ ∀ k, k ∈ O' → k ∈ O ∨ w.heap.size ≤ k) : EW J base e m w0 w1 x' g b L := by
  obtain ⟨v, O, h1⟩ := h
  obtain ⟨O', h2, h3⟩ := hJ O h1.ej.rest
  have h4 := hT O h1.ej.rest
  have hel := heap_lt h1.ej.ep.at'.blk
  have hml := heap_lt h1.ej.ep.at'.map
  have hn : ∀ q, q < w.heap.size → q ∉ O → q ∉ T ∧ q ∉ O' := fun q hq hO => ⟨fun hh => by
    rcases h4 q hh with h5 | h5
    · exact hO h5
    · omega, fun hh => by
    rcases h3 q hh with h5 | h5
    · exact hO h5
    · omega⟩
  have hv : ∀ q, v.ownBlock = some q → q ∉ T ∧ q ∉ O' := fun q hq => hn q (h1.ej.ep.row.lt q hq).2 (h1.ej.dv q hq)
  refine ⟨v, O', ⟨⟨h1.ej.ep.upd hu (hn e hel h1.ej.de).1 (hn m hml h1.ej.dm).1 (fun q hq => (hv q hq).1), h2, (hn e hel h1.ej.de).2, (hn m hml h1.ej.dm).2, fun q hq => (hv q hq).2⟩, h1.bel.trans (hu.below h1.bel.size (fun k hk => ?_)), fun k hk => ?_, Nat.le_trans h1.siz hu.size⟩⟩
  · rcases h4 k hk with h5 | h5
    · exact h1.new k (by simp [foot, h5])
    · have := h1.bel.size; omega
  · simp only [foot, List.mem_cons, List.mem_append] at hk
    rcases hk with rfl | rfl | hk | hk
    · exact h1.new _ (by simp [foot])
    · exact h1.new _ (by simp [foot])
    · exact h1.new _ (by simp [foot, hk])
    · rcases h3 k hk with h5 | h5
      · exact h1.new _ (by simp [foot, h5])
      · have := h1.bel.size; omega
/-- Functions that turn nothing that is told of. -/
theorem Coll.same (hR : ∀ r x g x' g' l, R r x g x' g' l → x' = x ∧ g' = g ∧ l = []) {x0 x : σ} {g0 g : EpG} {xs kept later : List Ret} {n : Nat} (h : Coll R x0 g0 xs x g kept later n) : x = x0 ∧ g = g0 ∧ later = [] := by
  induction h with
  | nil => exact ⟨rfl, rfl, rfl⟩
  | skip _ _ ih => exact ih
  | run _ _ h3 ih =>
    obtain ⟨rfl, rfl, rfl⟩ := ih
    obtain ⟨rfl, rfl, rfl⟩ := hR _ _ _ _ _ _ h3
    exact ⟨rfl, rfl, rfl⟩
theorem Coll.kept_sub {x0 x : σ} {g0 g : EpG} {xs kept later : List Ret} {n : Nat} (h : Coll R x0 g0 xs x g kept later n) : (∀ r, r ∈ kept → r ∈ xs) ∧ kept.length ≤ xs.length := by
  induction h with
  | nil => simp
  | skip _ _ ih => exact ⟨fun r hr => by
      rcases List.mem_append.1 hr with hr | hr
      · exact List.mem_append_left _ (ih.1 r hr)
      · exact List.mem_append_right _ hr, by simp; exact ih.2⟩
  | run _ _ _ ih => exact ⟨fun r hr => List.mem_append_left _ (ih.1 r hr), by simp; omega⟩
end
end Go.Proofs.Ytidiefcgepllmaa
