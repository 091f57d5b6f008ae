/- The law ArenaPlays: its world at the beginning; the pool's functions there. -/
import Derived.Test.YtoknkedmpdcinaaDoes
import Derived.Test.YtoknkedmpdcinaaArenaGreat
namespace Go.Proofs.Ytoknkedmpdcinaa
open Go.RowKit
section
variable {w0 w w' w1 w2 w3 w4 w5 w6 : World} {xb : Nat} {P : PBk} {wp : RB} {SL SLp SLr : List Sl} {told : List (Int × Int)} {K : List (Nat × Obj)} {ρ : Nat → Nat}
theorem AW.pFree (h : AW w0 w xb P wp SLp SLr told K) : Calls Try.prog 16 #[.pointer (paddr P)] w fun e w' => e = .returned (.int .i64 ((freeOf SLp).count true : Nat)) ∧ w = w' := by
  obtain ⟨ρ, A, B, C, toa, toc, ra, rc, h⟩ := h
  cases P with
  | none =>
    have h1 := h.ars.pool.2
    rw [h1]
    exact pFree_nil w
  | some q => exact pFree_any q.1 q.2.1 q.2.2 _ _ w h.ars.pool.1
theorem AW.pLive {q : Nat × Nat × Nat} (h : AW w0 w xb (some q) wp SLp SLr told K) : Calls Try.prog 19 #[.pointer (paddr (some q))] w fun e w' => e = .returned (.int .i64 ((SLp.length : Int) - ((freeOf SLp).count true : Nat))) ∧ AW w0 w' xb (some q) wp SLp SLr told K := by
  have h0 := h
  obtain ⟨ρ, A, B, C, toa, toc, ra, rc, h⟩ := h
  refine (pLive_any q.1 q.2.1 q.2.2 _ _ w h.ars.pool.1).mono ?_
  rintro e w' ⟨rfl, hb⟩
  rw [freeOf_len]
  exact ⟨rfl, h0.below hb⟩
theorem AW.pRoom {q : Nat × Nat × Nat} (h : AW w0 w xb (some q) wp SLp SLr told K) (n : Int) : Calls Try.prog 21 #[.pointer (paddr (some q)), .int .i64 n] w fun e w' => e = .returned (.bool (decide (n ≤ ((freeOf SLp).count true : Nat)))) ∧ AW w0 w' xb (some q) wp SLp SLr told K := by
  have h0 := h
  obtain ⟨ρ, A, B, C, toa, toc, ra, rc, h⟩ := h
  refine (pRoom_any q.1 q.2.1 q.2.2 _ _ n w h.ars.pool.1).mono ?_
  rintro e w' ⟨rfl, hb⟩
  exact ⟨rfl, h0.below hb⟩
theorem AW.pRoomNil (h : AW w0 w xb none wp SLp SLr told K) (n : Int) : Calls Try.prog 21 #[.pointer (paddr none), .int .i64 n] w fun e w' => e = .returned (.bool false) ∧ AW w0 w' xb none wp SLp SLr told K :=
  (pRoom_nil n w).mono fun _ _ ⟨h1, h2⟩ => ⟨h1, h.below h2⟩
theorem Ars.nil (P : PBk) (w : World) (ρ : Nat → Nat) {gens : List Int} {free : List Bool} (h : PoolO w ρ P gens free) : Ars w ρ P gens free [] := ⟨h, by simp⟩
/-- The three arenas, and the law's struct. -/
theorem AX.start (ho : Ro w0 w ρ) (ha : Ars w ρ P (gensOf SL) (freeOf SL) []) (hz : ∀ s, s ∈ SL → s.who = 0) (hl : SL.length ≤ 4096) {ra : Option Addr} {rc : Nat} (hr : RfB w ρ (wpo wp) SL ra rc) (hwq : ∀ q, wp = some q → q.2 = (ra, rc))
    (hb1 : Below w.heap.size w w1) (hs1 : w1.heap.size = w.heap.size + 2) (hA1 : AStr.AG w1 [] (paddr P) ⟨w.heap.size + 1, w.heap.size, [], 0⟩)
    (hb2 : Below w1.heap.size w1 w2) (hs2 : w2.heap.size = w1.heap.size + 2) (hA2 : AThing.AG w2 [] (paddr P) ⟨w1.heap.size + 1, w1.heap.size, [], 0⟩)
    (hb3 : Below w2.heap.size w2 w3) (hs3 : w3.heap.size = w2.heap.size + 2) (hA3 : AStr.AG w3 [] (paddr P) ⟨w2.heap.size + 1, w2.heap.size, [], 0⟩) :
    AW w0 (w3.alloc (.cells #[.pointer (paddr P), .pointer (some ⟨w.heap.size + 1, 0, none⟩), .pointer (some ⟨w2.heap.size + 1, 0, none⟩), .pointer (some ⟨w1.heap.size + 1, 0, none⟩), rptr (wpo wp), .slice none 0 0] 73)) w3.heap.size P wp SL SL [] [] := by
  obtain ⟨a1, u1⟩ := ha.new ho hb1 hs1 hA1
  have o1 := ho.step u1 (by simp)
  obtain ⟨a2, u2⟩ := a1.new o1 hb2 hs2 hA2
  have o2 := o1.step u2 (by simp)
  obtain ⟨a3, u3⟩ := a2.new o2 hb3 hs3 hA3
  have o3 := o2.step u3 (by simp)
  have u4 := (RU.below (rs := []) o3 ((Below.refl w3.heap.size w3).alloc (Nat.le_refl _) (.cells #[.pointer (paddr P), .pointer (some ⟨w.heap.size + 1, 0, none⟩), .pointer (some ⟨w2.heap.size + 1, 0, none⟩), .pointer (some ⟨w1.heap.size + 1, 0, none⟩), rptr (wpo wp), .slice none 0 0] 73))).mark (b := w3.heap.size) (r := 4) (Nat.le_refl _) (by simp)
  have hr4 := (((hr.ru ho u1 (by simp)).ru o1 u2 (by simp)).ru o2 u3 (by simp)).ru o3 u4 (by simp)
  have hnone : ∀ (Ct : AEnt → ByteArray → Prop) (k : Nat), k ≠ 0 → Sd Ct k [] SL := fun Ct k hk => ⟨by simp, fun i s hs hw => absurd (hw.symm.trans (hz s (List.mem_of_getElem? hs))) hk⟩
  exact ⟨_, ⟨w.heap.size + 1, w.heap.size, [], 0⟩, ⟨w1.heap.size + 1, w1.heap.size, [], 0⟩, ⟨w2.heap.size + 1, w2.heap.size, [], 0⟩, none, 0, ra, rc, o3.step u4 (by simp), a3.ru u4 (by simp), hnone _ _ (by decide), hnone _ _ (by decide), hnone _ _ (by decide), ⟨mark_self, heap_alloc_new _ _, Row.nil (k := 2) (f := hcell) hcell_len hcell_one _ _ _, by simp [Value.ownBlock], hr4, by simp⟩, ⟨hl, hl⟩, hwq⟩
theorem gens_rep (n : Nat) : gensOf (List.replicate n slot1) = List.replicate n 1 := by simp [gensOf, slot1]
theorem free_rep (n : Nat) : freeOf (List.replicate n slot1) = List.replicate n true := by simp [freeOf, slot1]
theorem start_some {n p g f : Nat} {a : Option Addr} {c : Nat} (hb0 : Below w0.heap.size w0 w) (hb1 : Below w.heap.size w w1) (hp1 : w.heap.size ≤ p) (hg1 : w.heap.size ≤ g) (hf1 : w.heap.size ≤ f) (hp : PoolIs w1 p g f (List.replicate n 1) (List.replicate n true))
    (hb2 : Below w1.heap.size w1 w2) (hR : RfQ w2 w1.heap.size a c (List.replicate n slot1)) (hq : ∀ q, (Value.slice a (List.replicate n slot1).length c).ownBlock = some q → w1.heap.size < q) :
    ∃ ρ, Ro w0 w2 ρ ∧ Ars w2 ρ (some (p, g, f)) (gensOf (List.replicate n slot1)) (freeOf (List.replicate n slot1)) [] ∧ RfB w2 ρ (wpo (some (w1.heap.size, a, c))) (List.replicate n slot1) a c := by
  have o0 : Ro w0 w (fun _ => 0) := ⟨hb0, fun _ _ => rfl, fun _ _ => rfl⟩
  have hpl := hp.lts
  have u1 := (((RU.below (rs := []) o0 hb1).mark (b := p) (r := 1) hp1 hpl.1).mark (b := g) (r := 2) hg1 hpl.2.1).mark (b := f) (r := 3) hf1 hpl.2.2
  have o1 := o0.step u1 (by simp)
  have hpo : PoolO w1 (mark (mark (mark (fun _ => 0) p 1) g 2) f 3) (some (p, g, f)) (gensOf (List.replicate n slot1)) (freeOf (List.replicate n slot1)) := by
    rw [gens_rep, free_rep]
    have hp' := hp
    obtain ⟨_, _, n1, n2, n3, _⟩ := hp'
    exact ⟨hp, by rw [mark_other n2, mark_other n1]; exact mark_self, by rw [mark_other n3]; exact mark_self, mark_self⟩
  have hbl := heap_lt hR.blk
  have u2 := (RU.below (rs := []) o1 hb2).mark (b := w1.heap.size) (r := 6) (Nat.le_refl _) hbl
  cases ho : (Value.slice a (List.replicate n slot1).length c).ownBlock with
  | none =>
    exact ⟨_, o1.step u2 (by simp), Ars.nil _ _ _ (hpo.ru u2 (by simp) (by simp) (by simp)), hR, mark_self, by rw [ho]; simp⟩
  | some q =>
    have h1 := hq q ho
    have u3 := u2.mark (b := q) (r := 6) (by omega) (hR.row.lt q ho).2
    exact ⟨_, o1.step u3 (by simp), Ars.nil _ _ _ (hpo.ru u3 (by simp) (by simp) (by simp)), hR, by change mark _ q 6 w1.heap.size = 6; rw [mark_other (by omega)]; exact mark_self, fun q' hq' => by rw [ho] at hq'; injection hq' with hq'; subst hq'; exact mark_self⟩
theorem start_none (hb0 : Below w0.heap.size w0 w) : Ro w0 w (fun _ => 0) ∧ Ars w (fun _ => 0) none (gensOf []) (freeOf []) [] ∧ RfB w (fun _ => 0) (wpo none) [] none 0 :=
  ⟨⟨hb0, fun _ _ => rfl, fun _ _ => rfl⟩, Ars.nil _ _ _ ⟨rfl, rfl⟩, rfl⟩
end
end Go.Proofs.Ytoknkedmpdcinaa
