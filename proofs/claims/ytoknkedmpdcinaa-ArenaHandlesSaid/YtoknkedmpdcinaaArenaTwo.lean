/- The walk of the helper 'two' of the arena's laws. -/
import Derived.Test.YtoknkedmpdcinaaArenaLeast
namespace Go.Proofs.Ytoknkedmpdcinaa
open Go.RowKit
def hcells (hs : List (Int × Int)) : List Value := hs.flatMap fun h => [Value.int .i64 h.1, Value.int .u64 h.2]
theorem hcells_length (hs : List (Int × Int)) : (hcells hs).length = hs.length * 2 := by
  unfold hcells
  induction hs with
  | nil => rfl
  | cons a l ih => simp at ih ⊢; omega
theorem hcells_snoc (hs : List (Int × Int)) (x : Int × Int) : hcells (hs ++ [x]) = hcells hs ++ [Value.int .i64 x.1, Value.int .u64 x.2] := by simp [hcells]
theorem hcells_get : ∀ (hs : List (Int × Int)) (k : Nat) (h : Int × Int), hs[k]? = some h → (hcells hs)[2 * k]? = some (Value.int .i64 h.1) ∧ (hcells hs)[2 * k + 1]? = some (Value.int .u64 h.2)
  | [], k, h, hk => by simp at hk
  | a :: l, 0, h, hk => by simp at hk; subst hk; simp [hcells]
  | a :: l, k + 1, h, hk => by
    have := hcells_get l k h (by simpa using hk)
    rw [show 2 * (k + 1) = 2 * k + 1 + 1 by omega]
    simp only [hcells, List.flatMap_cons] at this ⊢
    simpa using this
/-- A list of handles of the call's own. -/
def Told (w : World) (base : Nat) (v : Value) (hs : List (Int × Int)) : Prop := w.ownsRow base 40 2 v hs.length (hcells hs)
theorem Told.cases {w : World} {base : Nat} {v : Value} {hs : List (Int × Int)} (h : Told w base v hs) :
    (v = .slice none 0 0 ∧ hs = []) ∨ ∃ b cap, v = .slice (some ⟨b, 0, none⟩) hs.length cap ∧ base ≤ b ∧ b < w.heap.size ∧ v.ownBlock = some b ∧ ∀ k x, hs[k]? = some x → w.cell? ⟨b, 2 * k, none⟩ = some (.int .i64 x.1) ∧ w.cell? ⟨b, 2 * k + 1, none⟩ = some (.int .u64 x.2) := by
  obtain ⟨h1, h2⟩ := h
  rcases h2 with ⟨h2, h3⟩ | ⟨b, cap, cur, h2, h3, h4, h5, h6, h7, h8⟩
  · exact .inl ⟨h2, List.length_eq_zero_iff.1 h3⟩
  · refine .inr ⟨b, cap, h2, h3, heap_lt h4, by rw [h2]; rfl, fun k x hk => ?_⟩
    have hlt : k < hs.length := by
      rcases Nat.lt_or_ge k hs.length with h | h
      · exact h
      · rw [List.getElem?_eq_none h] at hk; cases hk
    have hx := hcells_get hs k x hk
    rw [← h8] at hx
    rw [List.getElem?_take_of_lt (by omega), List.getElem?_take_of_lt (by omega)] at hx
    rw [cell_of_heap h4, cell_of_heap h4]
    simpa using hx
theorem Told.upd {S : List Nat} {w w' : World} {base : Nat} {v : Value} {hs : List (Int × Int)} (h : Told w base v hs) (hu : Upd S w w') (hS : ∀ k, k ∈ S → v.ownBlock ≠ some k) : Told w' base v hs := by
  refine ⟨h.1, ?_⟩
  rcases h.2 with h2 | ⟨b, cap, cur, h2, h3, h4, h5⟩
  · exact .inl h2
  · exact .inr ⟨b, cap, cur, h2, h3, hu.heap h4 (fun hk => hS b hk (by rw [h2]; rfl)), h5⟩
structure TwoI (w0 w : World) (n base : Nat) (R : List Nat) (p g f ms aa am ba bm : Nat) (tv : Value) (hs : List (Int × Int)) (gens : List Int) (free : List Bool) (LA LB : List AEnt) (cA cB : Nat) (S : List Ent) (cs : Nat) : Prop where
  bel : Below w0.heap.size w0 w
  siz : base ≤ w.heap.size
  pool : PoolIs w p g f gens free
  fst : AInt.AG w R (some ⟨p, 0, none⟩) ⟨aa, am, LA, cA⟩
  snd : AStr.AG w R (some ⟨p, 0, none⟩) ⟨ba, bm, LB, cB⟩
  map : w.heap[ms]? = some (.map (ents S) cs)
  st : TwoS free LA LB S
  num : free.length = n
  told : Told w base tv hs
  own : ∀ b, tv.ownBlock = some b → (∀ e, e ∈ LA → e.blk ≠ b) ∧ ∀ e, e ∈ LB → e.blk ≠ b
theorem TwoI.below {w0 w w' : World} {n base : Nat} {R : List Nat} {p g f ms aa am ba bm : Nat} {tv : Value} {hs : List (Int × Int)} {gens : List Int} {free : List Bool} {LA LB : List AEnt} {cA cB : Nat} {S : List Ent} {cs : Nat}
    (h : TwoI w0 w n base R p g f ms aa am ba bm tv hs gens free LA LB cA cB S cs) (hb : Below w.heap.size w w') : TwoI w0 w' n base R p g f ms aa am ba bm tv hs gens free LA LB cA cB S cs :=
  ⟨h.bel.trans (hb.mono h.bel.size), Nat.le_trans h.siz hb.size, h.pool.below hb, ArenaG.below h.fst hb, ArenaG.below h.snd hb, Below.heap' hb h.map, h.st, h.num, h.told.upd (Upd.of_below (S := []) hb) (by simp), h.own⟩
/-- Who are the blocks that are no thing's. -/
structure Blk (w0 : World) (base : Nat) (R : List Nat) (p g f ms aa am ba bm : Nat) : Prop where
  eq : R = [p, g, f, ms, aa, am, ba, bm]
  nd : R.Nodup
  lt : ∀ r, r ∈ R → w0.heap.size ≤ r ∧ r < base
theorem Blk.ne {w0 : World} {base : Nat} {R : List Nat} {p g f ms aa am ba bm : Nat} (h : Blk w0 base R p g f ms aa am ba bm) :
    (aa ≠ p ∧ aa ≠ f ∧ aa ≠ g ∧ am ≠ p ∧ am ≠ f ∧ am ≠ g) ∧ (ba ≠ p ∧ ba ≠ f ∧ ba ≠ g ∧ bm ≠ p ∧ bm ≠ f ∧ bm ≠ g) ∧ (ms ≠ p ∧ ms ≠ g ∧ ms ≠ f ∧ ms ≠ aa ∧ ms ≠ am ∧ ms ≠ ba ∧ ms ≠ bm) := by
  have hnd := h.nd
  rw [h.eq] at hnd
  simp only [List.nodup_cons, List.mem_cons, List.not_mem_nil, or_false, not_or] at hnd
  obtain ⟨⟨a1, a2, a3, a4, a5, a6, a7⟩, ⟨b2, b3, b4, b5, b6, b7⟩, ⟨c3, c4, c5, c6, c7⟩, ⟨d4, d5, d6, d7⟩, _⟩ := hnd
  exact ⟨⟨fun e => a4 e.symm, fun e => c4 e.symm, fun e => b4 e.symm, fun e => a5 e.symm, fun e => c5 e.symm, fun e => b5 e.symm⟩, ⟨fun e => a6 e.symm, fun e => c6 e.symm, fun e => b6 e.symm, fun e => a7 e.symm, fun e => c7 e.symm, fun e => b7 e.symm⟩, fun e => a3 e.symm, fun e => b3 e.symm, fun e => c3 e.symm, d4, d5, d6, d7⟩
theorem Blk.mem {w0 : World} {base : Nat} {R : List Nat} {p g f ms aa am ba bm : Nat} (h : Blk w0 base R p g f ms aa am ba bm) : p ∈ R ∧ g ∈ R ∧ f ∈ R ∧ ms ∈ R ∧ aa ∈ R ∧ am ∈ R ∧ ba ∈ R ∧ bm ∈ R := by rw [h.eq]; simp
theorem nodup_out {l r : List Nat} {x : Nat} {t : List Nat} (h : (l ++ x :: r).Nodup) (ht : ∀ k, k ∈ t → k ∈ l ∨ k ∈ r) : x ∉ t := by
  intro hx
  rw [List.nodup_append] at h
  rcases ht x hx with h1 | h1
  · exact h.2.2 x h1 x (by simp) rfl
  · exact (List.nodup_cons.1 h.2.1).1 h1
theorem TwoI.turnA {w0 w : World} {n base : Nat} {R : List Nat} {p g f ms aa am ba bm : Nat} {tv : Value} {hs : List (Int × Int)} {gens : List Int} {free : List Bool} {LA LB : List AEnt} {cA cB : Nat} {S : List Ent} {cs : Nat} {w' : World} {gens' : List Int} {free' : List Bool} {LA' : List AEnt} {cA' : Nat} {S' : List Ent} {cs' : Nat}
    (h : TwoI w0 w n base R p g f ms aa am ba bm tv hs gens free LA LB cA cB S cs) (hk : Blk w0 base R p g f ms aa am ba bm) (hu : Upd [p, g, f, ms, am] w w') (hp : PoolIs w' p g f gens' free') (hA : AInt.AG w' R (some ⟨p, 0, none⟩) ⟨aa, am, LA', cA'⟩)
    (hm : w'.heap[ms]? = some (.map (ents S') cs')) (hst : TwoS free' LA' LB S') (hn : free'.length = n) (ho : ∀ e, e ∈ LA' → e ∈ LA ∨ w.heap.size ≤ e.blk) : TwoI w0 w' n base R p g f ms aa am ba bm tv hs gens' free' LA' LB cA' cB S' cs' := by
  obtain ⟨hR, hnd, hlt⟩ := hk
  subst hR
  have hown : ∀ b, tv.ownBlock = some b → base ≤ b ∧ b < w.heap.size := fun b hb => h.told.lt b hb
  have hin : ∀ k, k ∈ [p, g, f, ms, am] → k ∈ [p, g, f, ms, aa, am, ba, bm] := by
    intro k hk
    simp only [List.mem_cons, List.not_mem_nil, or_false] at hk ⊢
    rcases hk with h | h | h | h | h <;> simp [h]
  have hba : ba ∉ [p, g, f, ms, am] := nodup_out (l := [p, g, f, ms, aa, am]) (r := [bm]) hnd (by simp +contextual)
  have hbm : bm ∉ [p, g, f, ms, am] := nodup_out (l := [p, g, f, ms, aa, am, ba]) (r := []) hnd (by simp +contextual)
  refine ⟨h.bel.trans (hu.below h.bel.size ?_), Nat.le_trans h.siz hu.size, hp, hA, ArenaG.upd h.snd hu hin hba hbm, hm, hst, hn, h.told.upd hu ?_, ?_⟩
  · intro k hk
    exact (hlt k (hin k hk)).1
  · intro k hk hb
    have h1 := hown k hb
    have h2 := hlt k (hin k hk)
    omega
  · intro b hb
    refine ⟨fun e he => ?_, (h.own b hb).2⟩
    rcases ho e he with h1 | h1
    · exact (h.own b hb).1 e h1
    · have := hown b hb; omega
theorem TwoI.turnB {w0 w : World} {n base : Nat} {R : List Nat} {p g f ms aa am ba bm : Nat} {tv : Value} {hs : List (Int × Int)} {gens : List Int} {free : List Bool} {LA LB : List AEnt} {cA cB : Nat} {S : List Ent} {cs : Nat} {w' : World} {gens' : List Int} {free' : List Bool} {LB' : List AEnt} {cB' : Nat} {S' : List Ent} {cs' : Nat}
    (h : TwoI w0 w n base R p g f ms aa am ba bm tv hs gens free LA LB cA cB S cs) (hk : Blk w0 base R p g f ms aa am ba bm) (hu : Upd [p, g, f, ms, bm] w w') (hp : PoolIs w' p g f gens' free') (hB : AStr.AG w' R (some ⟨p, 0, none⟩) ⟨ba, bm, LB', cB'⟩)
    (hm : w'.heap[ms]? = some (.map (ents S') cs')) (hst : TwoS free' LA LB' S') (hn : free'.length = n) (ho : ∀ e, e ∈ LB' → e ∈ LB ∨ w.heap.size ≤ e.blk) : TwoI w0 w' n base R p g f ms aa am ba bm tv hs gens' free' LA LB' cA cB' S' cs' := by
  obtain ⟨hR, hnd, hlt⟩ := hk
  subst hR
  have hown : ∀ b, tv.ownBlock = some b → base ≤ b ∧ b < w.heap.size := fun b hb => h.told.lt b hb
  have hin : ∀ k, k ∈ [p, g, f, ms, bm] → k ∈ [p, g, f, ms, aa, am, ba, bm] := by
    intro k hk
    simp only [List.mem_cons, List.not_mem_nil, or_false] at hk ⊢
    rcases hk with h | h | h | h | h <;> simp [h]
  have haa : aa ∉ [p, g, f, ms, bm] := nodup_out (l := [p, g, f, ms]) (r := [am, ba, bm]) hnd (by simp +contextual)
  have ham : am ∉ [p, g, f, ms, bm] := nodup_out (l := [p, g, f, ms, aa]) (r := [ba, bm]) hnd (by simp +contextual)
  refine ⟨h.bel.trans (hu.below h.bel.size ?_), Nat.le_trans h.siz hu.size, hp, ArenaG.upd h.fst hu hin haa ham, hB, hm, hst, hn, h.told.upd hu ?_, ?_⟩
  · intro k hk
    exact (hlt k (hin k hk)).1
  · intro k hk hb
    have h1 := hown k hb
    have h2 := hlt k (hin k hk)
    omega
  · intro b hb
    refine ⟨(h.own b hb).1, fun e he => ?_⟩
    rcases ho e he with h1 | h1
    · exact (h.own b hb).2 e h1
    · have := hown b hb; omega
theorem upd_of_grown {w w' : World} {v : Value} (hg : w.grownBy w' v.ownBlock) (S : List Nat) (hS : ∀ b, v.ownBlock = some b → b ∈ S) : Upd S w w' :=
  ⟨hg.os, hg.tape, hg.output, hg.size, fun k hk hn => hg.block k hk (fun e => hn (hS k e.symm))⟩
theorem TwoI.app {w0 w : World} {n base : Nat} {R : List Nat} {p g f ms aa am ba bm : Nat} {tv : Value} {hs : List (Int × Int)} {gens : List Int} {free : List Bool} {LA LB : List AEnt} {cA cB : Nat} {S : List Ent} {cs : Nat} {w' : World} {tv' : Value} {x : Int × Int}
    (h : TwoI w0 w n base R p g f ms aa am ba bm tv hs gens free LA LB cA cB S cs) (hk : Blk w0 base R p g f ms aa am ba bm) (hg : w.grownBy w' tv.ownBlock) (ht : Told w' base tv' (hs ++ [x])) (hat : tv'.ownBlock = tv.ownBlock ∨ tv'.ownBlock = some w.heap.size) :
    TwoI w0 w' n base R p g f ms aa am ba bm tv' (hs ++ [x]) gens free LA LB cA cB S cs := by
  have hown : ∀ b, tv.ownBlock = some b → base ≤ b ∧ b < w.heap.size := fun b hb => h.told.lt b hb
  have hu : Upd tv.ownBlock.toList w w' := upd_of_grown hg _ (fun b hb => by rw [hb]; simp)
  have hR : ∀ r, r ∈ R → r ∉ tv.ownBlock.toList := by
    intro r hr hm
    have hm : tv.ownBlock = some r := by cases hq : tv.ownBlock <;> rw [hq] at hm <;> simp at hm; rw [hm]
    have h1 := hown r hm
    have h2 := hk.lt r hr
    omega
  have hRe := hk.eq
  have hget : ∀ b, b ∈ tv.ownBlock.toList → tv.ownBlock = some b := by
    intro b hb
    cases hq : tv.ownBlock <;> rw [hq] at hb <;> simp at hb
    rw [hb]
  have hmem : p ∈ R ∧ g ∈ R ∧ f ∈ R ∧ ms ∈ R ∧ aa ∈ R ∧ am ∈ R ∧ ba ∈ R ∧ bm ∈ R := by rw [hRe]; simp
  refine ⟨h.bel.trans (hu.below h.bel.size ?_), Nat.le_trans h.siz hu.size, h.pool.upd hu (hR _ hmem.1) (hR _ hmem.2.1) (hR _ hmem.2.2.1), ?_, ?_, hu.heap h.map (hR _ hmem.2.2.2.1), h.st, h.num, ht, ?_⟩
  · intro b hb
    have := hown b (hget b hb)
    have := hk.lt p hmem.1
    omega
  · exact ⟨h.fst.1, hu.heap h.fst.2.1 (hR _ hmem.2.2.2.2.1), hu.heap h.fst.2.2.1 (hR _ hmem.2.2.2.2.2.1), h.fst.2.2.2.1, h.fst.2.2.2.2.1, fun e he => ⟨(h.fst.2.2.2.2.2 e he).1, hu.heap (h.fst.2.2.2.2.2 e he).2 (fun hm => (h.own _ (hget _ hm)).1 e he rfl)⟩⟩
  · exact ⟨h.snd.1, hu.heap h.snd.2.1 (hR _ hmem.2.2.2.2.2.2.1), hu.heap h.snd.2.2.1 (hR _ hmem.2.2.2.2.2.2.2), h.snd.2.2.2.1, h.snd.2.2.2.2.1, fun e he => ⟨(h.snd.2.2.2.2.2 e he).1, hu.heap (h.snd.2.2.2.2.2 e he).2 (fun hm => (h.own _ (hget _ hm)).2 e he rfl)⟩⟩
  · intro b hb
    rcases hat with hat | hat
    · exact h.own b (by rw [← hat]; exact hb)
    · rw [hat] at hb
      simp only [Option.some.injEq] at hb
      exact ⟨fun e he => by have := heap_lt (h.fst.2.2.2.2.2 e he).2; omega, fun e he => by have := heap_lt (h.snd.2.2.2.2.2 e he).2; omega⟩
end Go.Proofs.Ytoknkedmpdcinaa
