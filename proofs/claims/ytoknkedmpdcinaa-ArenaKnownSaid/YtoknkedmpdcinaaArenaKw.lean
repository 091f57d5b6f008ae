/- A pool with an arena of texts and one of numbers, and blocks that stay as they are: the package's functions in such a world. -/
import Derived.Test.YtoknkedmpdcinaaArenaAwake
import Derived.Test.YtoknkedmpdcinaaHandlesOfInt
import Derived.Test.YtoknkedmpdcinaaHandlesOfString
namespace Go.Proofs.Ytoknkedmpdcinaa
open Go.RowKit
abbrev rb (p g f aa am ba bm : Nat) : List Nat := [p, g, f, aa, am, ba, bm]
structure KW (w0 w : World) (p g f aa am ba bm : Nat) (K : List (Nat × Obj)) (gens : List Int) (free : List Bool) (LA LB : List AEnt) (cA cB : Nat) : Prop where
  bel : Below w0.heap.size w0 w
  pool : PoolIs w p g f gens free
  fa : AStr.AG w (rb p g f aa am ba bm) (some ⟨p, 0, none⟩) ⟨aa, am, LA, cA⟩
  fb : AInt.AG w (rb p g f aa am ba bm) (some ⟨p, 0, none⟩) ⟨ba, bm, LB, cB⟩
  bA : Born AEnt.born LA cA
  bB : Born AEnt.born LB cB
  nd : (rb p g f aa am ba bm).Nodup
  new : ∀ r, r ∈ rb p g f aa am ba bm → w0.heap.size ≤ r
  kp : ∀ x, x ∈ K → w.heap[x.1]? = some x.2 ∧ x.1 ∉ rb p g f aa am ba bm
  busy : ∀ e, e ∈ LA ∨ e ∈ LB → free[e.slot]? = some false
def KWEnd (w0 : World) (p g f aa am ba bm : Nat) (K : List (Nat × Obj)) (gens : List Int) (free : List Bool) (LA LB : List AEnt) (cA cB : Nat) (z : Value) (e : Ending) (w' : World) : Prop := e = .returned z ∧ KW w0 w' p g f aa am ba bm K gens free LA LB cA cB
variable {w0 w w' : World} {p g f aa am ba bm : Nat} {K : List (Nat × Obj)} {gens : List Int} {free : List Bool} {LA LB : List AEnt} {cA cB : Nat}
theorem KW.ne (h : KW w0 w p g f aa am ba bm K gens free LA LB cA cB) : (aa ≠ p ∧ aa ≠ f ∧ aa ≠ g ∧ am ≠ p ∧ am ≠ f ∧ am ≠ g) ∧ (ba ≠ p ∧ ba ≠ f ∧ ba ≠ g ∧ bm ≠ p ∧ bm ≠ f ∧ bm ≠ g) ∧ (aa ≠ ba ∧ aa ≠ bm ∧ am ≠ ba ∧ am ≠ bm) := by
  have hnd := h.nd
  simp only [List.nodup_cons, List.mem_cons, List.not_mem_nil, or_false, not_or] at hnd
  obtain ⟨⟨a1, a2, a3, a4, a5, a6⟩, ⟨b2, b3, b4, b5, b6⟩, ⟨c3, c4, c5, c6⟩, ⟨d4, d5, d6⟩, ⟨e5, e6⟩, _⟩ := hnd
  exact ⟨⟨fun e => a3 e.symm, fun e => c3 e.symm, fun e => b3 e.symm, fun e => a4 e.symm, fun e => c4 e.symm, fun e => b4 e.symm⟩, ⟨fun e => a5 e.symm, fun e => c5 e.symm, fun e => b5 e.symm, fun e => a6 e.symm, fun e => c6 e.symm, fun e => b6 e.symm⟩, d5, d6, e5, e6⟩
theorem KW.below (h : KW w0 w p g f aa am ba bm K gens free LA LB cA cB) (hb : Below w.heap.size w w') : KW w0 w' p g f aa am ba bm K gens free LA LB cA cB :=
  ⟨h.bel.trans (hb.mono h.bel.size), h.pool.below hb, ArenaG.below h.fa hb, ArenaG.below h.fb hb, h.bA, h.bB, h.nd, h.new, fun x hx => ⟨Below.heap' hb (h.kp x hx).1, (h.kp x hx).2⟩, h.busy⟩
theorem KW.box (h : KW w0 w p g f aa am ba bm K gens free LA LB cA cB) (o : Obj) : KW w0 (w.alloc o) p g f aa am ba bm (K ++ [(w.heap.size, o)]) gens free LA LB cA cB := by
  have h1 := h.below ((Below.refl w.heap.size w).alloc (Nat.le_refl _) o)
  refine ⟨h1.bel, h1.pool, h1.fa, h1.fb, h1.bA, h1.bB, h1.nd, h1.new, fun x hx => ?_, h1.busy⟩
  rcases List.mem_append.1 hx with hx | hx
  · exact h1.kp x hx
  · simp at hx
    subst hx
    refine ⟨heap_alloc_new w o, fun hh => ?_⟩
    have hlt : ∀ r, r ∈ rb p g f aa am ba bm → r < w.heap.size := by
      intro r hr
      simp only [List.mem_cons, List.not_mem_nil, or_false] at hr
      rcases hr with rfl | rfl | rfl | rfl | rfl | rfl | rfl
      · exact heap_lt h.pool.2.2.2.2.2.1
      · exact heap_lt h.pool.2.2.2.2.2.2.1
      · exact heap_lt h.pool.2.2.2.2.2.2.2
      · exact heap_lt h.fa.2.1
      · exact heap_lt h.fa.2.2.1
      · exact heap_lt h.fb.2.1
      · exact heap_lt h.fb.2.2.1
    have := hlt _ hh
    omega
theorem KW.lt (h : KW w0 w p g f aa am ba bm K gens free LA LB cA cB) : ∀ r, r ∈ rb p g f aa am ba bm → r < w.heap.size := by
  intro r hr
  simp only [List.mem_cons, List.not_mem_nil, or_false] at hr
  rcases hr with rfl | rfl | rfl | rfl | rfl | rfl | rfl
  · exact heap_lt h.pool.2.2.2.2.2.1
  · exact heap_lt h.pool.2.2.2.2.2.2.1
  · exact heap_lt h.pool.2.2.2.2.2.2.2
  · exact heap_lt h.fa.2.1
  · exact heap_lt h.fa.2.2.1
  · exact heap_lt h.fb.2.1
  · exact heap_lt h.fb.2.2.1
theorem idx_set {free : List Bool} {s : Nat} (h : free[s]? = some false) (hn : true ∈ free) : (free.set (free.idxOf true) false)[s]? = some false := by
  rw [List.getElem?_set]
  split
  · rename_i he
    rw [if_pos (List.idxOf_lt_length_of_mem hn)]
  · exact h
theorem idx_ne {free : List Bool} {s : Nat} (h : free[s]? = some false) (hn : true ∈ free) : s ≠ free.idxOf true := by
  intro he
  have i1 := List.idxOf_lt_length_of_mem hn
  have i2 : free[free.idxOf true]? = some true := by rw [List.getElem?_eq_getElem i1, List.getElem_idxOf]
  rw [he, i2] at h
  cases h
/-- What a step that writes blocks of the pool and the arenas alone leaves. -/
theorem KW.step {S : List Nat} {gens' : List Int} {free' : List Bool} {LA' LB' : List AEnt} {cA' cB' : Nat} (h : KW w0 w p g f aa am ba bm K gens free LA LB cA cB) (hu : Upd S w w') (hS : ∀ k, k ∈ S → k ∈ rb p g f aa am ba bm) (hp : PoolIs w' p g f gens' free')
    (hA : AStr.AG w' (rb p g f aa am ba bm) (some ⟨p, 0, none⟩) ⟨aa, am, LA', cA'⟩) (hB : AInt.AG w' (rb p g f aa am ba bm) (some ⟨p, 0, none⟩) ⟨ba, bm, LB', cB'⟩) (bA : Born AEnt.born LA' cA') (bB : Born AEnt.born LB' cB') (hb : ∀ e, e ∈ LA' ∨ e ∈ LB' → free'[e.slot]? = some false) :
    KW w0 w' p g f aa am ba bm K gens' free' LA' LB' cA' cB' :=
  ⟨h.bel.trans (hu.below h.bel.size (fun k hk => h.new k (hS k hk))), hp, hA, hB, bA, bB, h.nd, h.new, fun x hx => ⟨hu.heap (h.kp x hx).1 (fun hh => (h.kp x hx).2 (hS _ hh)), (h.kp x hx).2⟩, hb⟩
def KAEnd (w0 w : World) (p g f aa am ba bm : Nat) (K : List (Nat × Obj)) (gens : List Int) (free : List Bool) (LA LB : List AEnt) (cA cB : Nat) (x : ByteArray) (e : Ending) (w' : World) : Prop :=
  e = .returned (.tuple #[.agg #[.int .i64 (free.idxOf true), .int .u64 (gens.getD (free.idxOf true) 0)], .int .i64 0]) ∧ ∃ b, w.heap.size ≤ b ∧ KW w0 w' p g f aa am ba bm K gens (free.set (free.idxOf true) false) (LA ++ [⟨free.idxOf true, gens.getD (free.idxOf true) 0, b, [.string x], cA⟩]) LB (cA + 1) cB
theorem KW.allocA (h : KW w0 w p g f aa am ba bm K gens free LA LB cA cB) (x : ByteArray) (hn : true ∈ free) : Calls Try.prog 13 #[.pointer (some ⟨aa, 0, none⟩), .string x] w (KAEnd w0 w p g f aa am ba bm K gens free LA LB cA cB x) := by
  obtain ⟨n1, n2, n3⟩ := h.ne
  refine (AStr.gAlloc_some ⟨aa, am, LA, cA⟩ p g f _ gens free x w h.fa h.pool hn n1.1 n1.2.1 n1.2.2.2.1 n1.2.2.2.2.1 n1.2.2.2.2.2 (by simp) h.lt (fun e he => idx_ne (h.busy e (.inl he)) hn)).mono ?_
  rintro e w' ⟨rfl, hu, hp, b, hb, hA⟩
  have hB : AInt.AG w' (rb p g f aa am ba bm) (some ⟨p, 0, none⟩) ⟨ba, bm, LB, cB⟩ := ArenaG.upd h.fb hu (by simp) (by simp; exact ⟨n2.1, n2.2.1, fun hh => n3.2.2.1 hh.symm⟩) (by simp; exact ⟨n2.2.2.2.1, n2.2.2.2.2.1, fun hh => n3.2.2.2 hh.symm⟩)
  refine ⟨rfl, b, hb, h.step hu (by simp) hp hA hB (h.bA.snoc _ rfl) h.bB (fun e he => ?_)⟩
  rcases he with he | he
  · rcases List.mem_append.1 he with he | he
    · exact idx_set (h.busy e (.inl he)) hn
    · simp at he
      subst he
      simp [List.idxOf_lt_length_of_mem hn]
  · exact idx_set (h.busy e (.inr he)) hn
def KBEnd (w0 w : World) (p g f aa am ba bm : Nat) (K : List (Nat × Obj)) (gens : List Int) (free : List Bool) (LA LB : List AEnt) (cA cB : Nat) (x : Int) (e : Ending) (w' : World) : Prop :=
  e = .returned (.tuple #[.agg #[.int .i64 (free.idxOf true), .int .u64 (gens.getD (free.idxOf true) 0)], .int .i64 0]) ∧ ∃ b, w.heap.size ≤ b ∧ KW w0 w' p g f aa am ba bm K gens (free.set (free.idxOf true) false) LA (LB ++ [⟨free.idxOf true, gens.getD (free.idxOf true) 0, b, [.int .i64 x], cB⟩]) cA (cB + 1)
theorem KW.allocB (h : KW w0 w p g f aa am ba bm K gens free LA LB cA cB) (x : Int) (hn : true ∈ free) : Calls Try.prog 22 #[.pointer (some ⟨ba, 0, none⟩), .int .i64 x] w (KBEnd w0 w p g f aa am ba bm K gens free LA LB cA cB x) := by
  obtain ⟨n1, n2, n3⟩ := h.ne
  refine (AInt.gAlloc_some ⟨ba, bm, LB, cB⟩ p g f _ gens free x w h.fb h.pool hn n2.1 n2.2.1 n2.2.2.2.1 n2.2.2.2.2.1 n2.2.2.2.2.2 (by simp) h.lt (fun e he => idx_ne (h.busy e (.inr he)) hn)).mono ?_
  rintro e w' ⟨rfl, hu, hp, b, hb, hB⟩
  have hA : AStr.AG w' (rb p g f aa am ba bm) (some ⟨p, 0, none⟩) ⟨aa, am, LA, cA⟩ := ArenaG.upd h.fa hu (by simp) (by simp; exact ⟨n1.1, n1.2.1, n3.2.1⟩) (by simp; exact ⟨n1.2.2.2.1, n1.2.2.2.2.1, n3.2.2.2⟩)
  refine ⟨rfl, b, hb, h.step hu (by simp) hp hA hB h.bA (h.bB.snoc _ rfl) (fun e he => ?_)⟩
  rcases he with he | he
  · exact idx_set (h.busy e (.inl he)) hn
  · rcases List.mem_append.1 he with he | he
    · exact idx_set (h.busy e (.inr he)) hn
    · simp at he
      subst he
      simp [List.idxOf_lt_length_of_mem hn]
theorem KW.relA (h : KW w0 w p g f aa am ba bm K gens free LA LB cA cB) (x : AEnt) (hx : x ∈ LA) (hs hg : Int) (h1 : hs = (x.slot : Int)) (h2 : x.gen = hg) (hoff : ∀ e, e ∈ LB → e.slot ≠ x.slot) :
    Calls Try.prog 14 #[.pointer (some ⟨aa, 0, none⟩), .agg #[.int .i64 hs, .int .u64 hg]] w (KWEnd w0 p g f aa am ba bm K (gens.set x.slot (IntKind.u64.wrap (gens.getD x.slot 0 + 1))) (free.set x.slot true) (LA.filter fun e => e.slot ≠ x.slot) LB cA cB (.bool true)) := by
  obtain ⟨n1, n2, n3⟩ := h.ne
  refine (AStr.gRelease_some ⟨aa, am, LA, cA⟩ p g f _ gens free hs hg x w h.fa h.pool hx h1 h2 (h.busy x (.inl hx)) n1.1 n1.2.1 n1.2.2.1 n1.2.2.2.1 n1.2.2.2.2.1 n1.2.2.2.2.2 (by simp)).mono ?_
  rintro e w' ⟨rfl, hu, hp, hA⟩
  have hB : AInt.AG w' (rb p g f aa am ba bm) (some ⟨p, 0, none⟩) ⟨ba, bm, LB, cB⟩ := ArenaG.upd h.fb hu (by simp) (by simp; exact ⟨n2.1, n2.2.2.1, n2.2.1, fun hh => n3.2.2.1 hh.symm⟩) (by simp; exact ⟨n2.2.2.2.1, n2.2.2.2.2.2, n2.2.2.2.2.1, fun hh => n3.2.2.2 hh.symm⟩)
  refine ⟨rfl, h.step hu (by simp) hp hA hB (h.bA.filter _) h.bB (fun e he => ?_)⟩
  have hne : ∀ e : AEnt, e.slot ≠ x.slot → free[e.slot]? = some false → (free.set x.slot true)[e.slot]? = some false := fun e h1 h2 => by
    rw [List.getElem?_set, if_neg (fun hh => h1 hh.symm)]; exact h2
  rcases he with he | he
  · have h3 := List.mem_filter.1 he
    exact hne e (by simpa using h3.2) (h.busy e (.inl h3.1))
  · exact hne e (hoff e he) (h.busy e (.inr he))
end Go.Proofs.Ytoknkedmpdcinaa
