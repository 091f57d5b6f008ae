/- The world of the law ArenaHandles: a pool, two arenas of texts, two lists of handles of the call's own. -/
import Derived.Test.YtoknkedmpdcinaaArenaHold
namespace Go.Proofs.Ytoknkedmpdcinaa
open Go.RowKit
structure HW (w0 w : World) (base : Nat) (R : List Nat) (p g f aa am ca cm : Nat) (vo vg : Value) (on gone : List HEnt) (gens : List Int) (free : List Bool) (LA LC : List AEnt) (cA cC : Nat) : Prop where
  bel : Below w0.heap.size w0 w
  siz : base ≤ w.heap.size
  pool : PoolIs w p g f gens free
  fst : AStr.AG w R (some ⟨p, 0, none⟩) ⟨aa, am, LA, cA⟩
  snd : AStr.AG w R (some ⟨p, 0, none⟩) ⟨ca, cm, LC, cC⟩
  hon : HOwn w base vo on
  hgone : HOwn w base vg gone
  apart : ∀ b, vo.ownBlock = some b → vg.ownBlock ≠ some b
  ownA : ∀ e, e ∈ LA → vo.ownBlock ≠ some e.blk ∧ vg.ownBlock ≠ some e.blk
  ownC : ∀ e, e ∈ LC → vo.ownBlock ≠ some e.blk ∧ vg.ownBlock ≠ some e.blk
theorem HW.below {w0 w w' : World} {base : Nat} {R : List Nat} {p g f aa am ca cm : Nat} {vo vg : Value} {on gone : List HEnt} {gens : List Int} {free : List Bool} {LA LC : List AEnt} {cA cC : Nat}
    (h : HW w0 w base R p g f aa am ca cm vo vg on gone gens free LA LC cA cC) (hb : Below w.heap.size w w') : HW w0 w' base R p g f aa am ca cm vo vg on gone gens free LA LC cA cC :=
  ⟨h.bel.trans (hb.mono h.bel.size), Nat.le_trans h.siz hb.size, h.pool.below hb, ArenaG.below h.fst hb, ArenaG.below h.snd hb, h.hon.below hb, h.hgone.below hb, h.apart, h.ownA, h.ownC⟩
/-- Another list of what is on, that lies in a new block. -/
theorem HW.fresh {w0 w w' : World} {base : Nat} {R : List Nat} {p g f aa am ca cm : Nat} {vo vg vo' : Value} {on gone on' : List HEnt} {gens : List Int} {free : List Bool} {LA LC : List AEnt} {cA cC : Nat}
    (h : HW w0 w base R p g f aa am ca cm vo vg on gone gens free LA LC cA cC) (hb : Below w.heap.size w w') (ho : HOwn w' base vo' on') (hn : ∀ b, vo'.ownBlock = some b → w.heap.size ≤ b) : HW w0 w' base R p g f aa am ca cm vo' vg on' gone gens free LA LC cA cC := by
  have h' := h.below hb
  refine ⟨h'.bel, h'.siz, h'.pool, h'.fst, h'.snd, ho, h'.hgone, fun b h1 h2 => ?_, fun e he => ⟨fun h1 => ?_, (h.ownA e he).2⟩, fun e he => ⟨fun h1 => ?_, (h.ownC e he).2⟩⟩
  · have := hn b h1
    have := (h.hgone.lt b h2).2
    omega
  · have := hn _ h1
    have := heap_lt (h.fst.2.2.2.2.2 e he).2
    omega
  · have := hn _ h1
    have := heap_lt (h.snd.2.2.2.2.2 e he).2
    omega
/-- A step that writes into the pool and the arenas alone. -/
theorem HW.step {w0 w w' : World} {base : Nat} {R : List Nat} {p g f aa am ca cm : Nat} {vo vg : Value} {on gone : List HEnt} {gens gens' : List Int} {free free' : List Bool} {LA LC LA' LC' : List AEnt} {cA cC cA' cC' : Nat} {S : List Nat}
    (h : HW w0 w base R p g f aa am ca cm vo vg on gone gens free LA LC cA cC) (hu : Upd S w w') (hS : ∀ k, k ∈ S → k ∈ R) (hR : ∀ r, r ∈ R → w0.heap.size ≤ r ∧ r < base) (hp : PoolIs w' p g f gens' free')
    (hA : AStr.AG w' R (some ⟨p, 0, none⟩) ⟨aa, am, LA', cA'⟩) (hC : AStr.AG w' R (some ⟨p, 0, none⟩) ⟨ca, cm, LC', cC'⟩) (nA : ∀ e, e ∈ LA' → e ∈ LA ∨ w.heap.size ≤ e.blk) (nC : ∀ e, e ∈ LC' → e ∈ LC ∨ w.heap.size ≤ e.blk) :
    HW w0 w' base R p g f aa am ca cm vo vg on gone gens' free' LA' LC' cA' cC' := by
  have own : ∀ {v : Value} {l : List HEnt}, HOwn w base v l → ∀ b, v.ownBlock = some b → base ≤ b ∧ b < w.heap.size := fun hv b hb => hv.lt b hb
  have hno : ∀ {v : Value} {l : List HEnt}, HOwn w base v l → ∀ k, k ∈ S → v.ownBlock ≠ some k := by
    intro v l hv k hk hb
    have := own hv k hb
    have := (hR k (hS k hk)).2
    omega
  have hnew : ∀ {v : Value} {l : List HEnt} {b : Nat}, HOwn w base v l → w.heap.size ≤ b → v.ownBlock ≠ some b := by
    intro v l b hv h1 hb
    have := own hv b hb
    omega
  refine ⟨h.bel.trans (hu.below h.bel.size fun k hk => (hR k (hS k hk)).1), Nat.le_trans h.siz hu.size, hp, hA, hC, h.hon.upd hu (hno h.hon), h.hgone.upd hu (hno h.hgone), h.apart, fun e he => ?_, fun e he => ?_⟩
  · rcases nA e he with h1 | h1
    · exact h.ownA e h1
    · exact ⟨hnew h.hon h1, hnew h.hgone h1⟩
  · rcases nC e he with h1 | h1
    · exact h.ownC e h1
    · exact ⟨hnew h.hon h1, hnew h.hgone h1⟩
/-- What is written is a list's own block alone: all else stands. -/
theorem HW.parts {w0 w w' : World} {base : Nat} {R : List Nat} {p g f aa am ca cm : Nat} {vo vg v : Value} {on gone l : List HEnt} {gens : List Int} {free : List Bool} {LA LC : List AEnt} {cA cC : Nat}
    (h : HW w0 w base R p g f aa am ca cm vo vg on gone gens free LA LC cA cC) (hR : ∀ r, r ∈ R → w0.heap.size ≤ r ∧ r < base) (hm : p ∈ R ∧ g ∈ R ∧ f ∈ R ∧ aa ∈ R ∧ am ∈ R ∧ ca ∈ R ∧ cm ∈ R) (hv : HOwn w base v l)
    (hA : ∀ e, e ∈ LA → v.ownBlock ≠ some e.blk) (hC : ∀ e, e ∈ LC → v.ownBlock ≠ some e.blk) (hg : w.grownBy w' v.ownBlock) :
    Upd v.ownBlock.toList w w' ∧ Below w0.heap.size w0 w' ∧ PoolIs w' p g f gens free ∧ AStr.AG w' R (some ⟨p, 0, none⟩) ⟨aa, am, LA, cA⟩ ∧ AStr.AG w' R (some ⟨p, 0, none⟩) ⟨ca, cm, LC, cC⟩ := by
  have hu : Upd v.ownBlock.toList w w' := upd_of_grown hg _ (fun b hb => by rw [hb]; simp)
  have hget : ∀ b, b ∈ v.ownBlock.toList → v.ownBlock = some b := by
    intro b hb
    cases hq : v.ownBlock <;> rw [hq] at hb <;> simp at hb
    rw [hb]
  have hn : ∀ r, r ∈ R → r ∉ v.ownBlock.toList := by
    intro r hr hmm
    have h1 := hv.lt r (hget r hmm)
    have h2 := hR r hr
    omega
  refine ⟨hu, h.bel.trans (hu.below h.bel.size fun b hb => ?_), h.pool.upd hu (hn _ hm.1) (hn _ hm.2.1) (hn _ hm.2.2.1), ?_, ?_⟩
  · have h1 := hv.lt b (hget b hb)
    have h2 := hR p hm.1
    omega
  · exact ⟨h.fst.1, hu.heap h.fst.2.1 (hn _ hm.2.2.2.1), hu.heap h.fst.2.2.1 (hn _ hm.2.2.2.2.1), h.fst.2.2.2.1, h.fst.2.2.2.2.1, fun e he => ⟨(h.fst.2.2.2.2.2 e he).1, hu.heap (h.fst.2.2.2.2.2 e he).2 (fun hmm => hA e he (hget _ hmm))⟩⟩
  · exact ⟨h.snd.1, hu.heap h.snd.2.1 (hn _ hm.2.2.2.2.2.1), hu.heap h.snd.2.2.1 (hn _ hm.2.2.2.2.2.2), h.snd.2.2.2.1, h.snd.2.2.2.2.1, fun e he => ⟨(h.snd.2.2.2.2.2 e he).1, hu.heap (h.snd.2.2.2.2.2 e he).2 (fun hmm => hC e he (hget _ hmm))⟩⟩
theorem HW.appOn {w0 w w' : World} {base : Nat} {R : List Nat} {p g f aa am ca cm : Nat} {vo vg vo' : Value} {on gone on' : List HEnt} {gens : List Int} {free : List Bool} {LA LC : List AEnt} {cA cC : Nat}
    (h : HW w0 w base R p g f aa am ca cm vo vg on gone gens free LA LC cA cC) (hR : ∀ r, r ∈ R → w0.heap.size ≤ r ∧ r < base) (hm : p ∈ R ∧ g ∈ R ∧ f ∈ R ∧ aa ∈ R ∧ am ∈ R ∧ ca ∈ R ∧ cm ∈ R)
    (hg : w.grownBy w' vo.ownBlock) (ho : HOwn w' base vo' on') (hat : vo'.ownBlock = vo.ownBlock ∨ vo'.ownBlock = some w.heap.size) : HW w0 w' base R p g f aa am ca cm vo' vg on' gone gens free LA LC cA cC := by
  obtain ⟨hu, q1, q2, q3, q4⟩ := h.parts hR hm h.hon (fun e he => (h.ownA e he).1) (fun e he => (h.ownC e he).1) hg
  have hget : ∀ b, b ∈ vo.ownBlock.toList → vo.ownBlock = some b := by
    intro b hb
    cases hq : vo.ownBlock <;> rw [hq] at hb <;> simp at hb
    rw [hb]
  have hlt : ∀ e, e ∈ LA ∨ e ∈ LC → e.blk < w.heap.size := by
    intro e he
    rcases he with he | he
    · exact heap_lt (h.fst.2.2.2.2.2 e he).2
    · exact heap_lt (h.snd.2.2.2.2.2 e he).2
  have hx : ∀ e, e ∈ LA ∨ e ∈ LC → vo'.ownBlock ≠ some e.blk := by
    intro e he hb
    rcases hat with hat | hat
    · rw [hat] at hb
      rcases he with he | he
      · exact (h.ownA e he).1 hb
      · exact (h.ownC e he).1 hb
    · rw [hat] at hb
      have := hlt e he
      injection hb with hb
      omega
  have hap : ∀ b, vo'.ownBlock = some b → vg.ownBlock ≠ some b := by
    intro b h1 h2
    rcases hat with hat | hat
    · rw [hat] at h1
      exact h.apart b h1 h2
    · rw [hat] at h1
      have := (h.hgone.lt b h2).2
      injection h1 with h1
      omega
  have hk : HOwn w' base vg gone := h.hgone.upd hu (fun k hk h2 => h.apart k (hget k hk) h2)
  exact ⟨q1, Nat.le_trans h.siz hu.size, q2, q3, q4, ho, hk, hap, fun e he => ⟨hx e (.inl he), (h.ownA e he).2⟩, fun e he => ⟨hx e (.inr he), (h.ownC e he).2⟩⟩
theorem HW.appGone {w0 w w' : World} {base : Nat} {R : List Nat} {p g f aa am ca cm : Nat} {vo vg vg' : Value} {on gone gone' : List HEnt} {gens : List Int} {free : List Bool} {LA LC : List AEnt} {cA cC : Nat}
    (h : HW w0 w base R p g f aa am ca cm vo vg on gone gens free LA LC cA cC) (hR : ∀ r, r ∈ R → w0.heap.size ≤ r ∧ r < base) (hm : p ∈ R ∧ g ∈ R ∧ f ∈ R ∧ aa ∈ R ∧ am ∈ R ∧ ca ∈ R ∧ cm ∈ R)
    (hg : w.grownBy w' vg.ownBlock) (ho : HOwn w' base vg' gone') (hat : vg'.ownBlock = vg.ownBlock ∨ vg'.ownBlock = some w.heap.size) : HW w0 w' base R p g f aa am ca cm vo vg' on gone' gens free LA LC cA cC := by
  obtain ⟨hu, q1, q2, q3, q4⟩ := h.parts hR hm h.hgone (fun e he => (h.ownA e he).2) (fun e he => (h.ownC e he).2) hg
  have hget : ∀ b, b ∈ vg.ownBlock.toList → vg.ownBlock = some b := by
    intro b hb
    cases hq : vg.ownBlock <;> rw [hq] at hb <;> simp at hb
    rw [hb]
  have hlt : ∀ e, e ∈ LA ∨ e ∈ LC → e.blk < w.heap.size := by
    intro e he
    rcases he with he | he
    · exact heap_lt (h.fst.2.2.2.2.2 e he).2
    · exact heap_lt (h.snd.2.2.2.2.2 e he).2
  have hx : ∀ e, e ∈ LA ∨ e ∈ LC → vg'.ownBlock ≠ some e.blk := by
    intro e he hb
    rcases hat with hat | hat
    · rw [hat] at hb
      rcases he with he | he
      · exact (h.ownA e he).2 hb
      · exact (h.ownC e he).2 hb
    · rw [hat] at hb
      have := hlt e he
      injection hb with hb
      omega
  have hap : ∀ b, vg'.ownBlock = some b → vo.ownBlock ≠ some b := by
    intro b h1 h2
    rcases hat with hat | hat
    · rw [hat] at h1
      exact h.apart b h2 h1
    · rw [hat] at h1
      have := (h.hon.lt b h2).2
      injection h1 with h1
      omega
  have hk : HOwn w' base vo on := h.hon.upd hu (fun k hk h2 => h.apart k h2 (hget k hk))
  exact ⟨q1, Nat.le_trans h.siz hu.size, q2, q3, q4, hk, ho, fun b h1 h2 => hap b h2 h1, fun e he => ⟨(h.ownA e he).1, hx e (.inl he)⟩, fun e he => ⟨(h.ownC e he).1, hx e (.inr he)⟩⟩
end Go.Proofs.Ytoknkedmpdcinaa
