/- The law ArenaPlays: a pool with three arenas, the document's pool, the law's own blocks. -/
import Derived.Test.YtoknkedmpdcinaaRef2N
import Derived.Test.YtoknkedmpdcinaaArs
import Derived.Test.YtoknkedmpdcinaaHandlesOfString
import Derived.Test.YtoknkedmpdcinaaHandlesOfThing
namespace Go.Proofs.Ytoknkedmpdcinaa
open Go.RowKit
/-! ### Slots and an arena's things -/
structure Sd (Ct : AEnt → ByteArray → Prop) (k : Nat) (L : List AEnt) (SL : List Sl) : Prop where
  fw : ∀ e, e ∈ L → ∃ s, SL[e.slot]? = some s ∧ s.who = k ∧ e.gen = s.gen ∧ Ct e s.x
  bw : ∀ (i : Nat) s, SL[i]? = some s → s.who = k → ∃ e, e ∈ L ∧ e.slot = i
section
variable {Ct Ct' : AEnt → ByteArray → Prop} {k : Nat} {L : List AEnt} {SL : List Sl}
theorem Sd.imp (h : Sd Ct k L SL) (hc : ∀ e x, Ct e x → Ct' e x) : Sd Ct' k L SL := ⟨fun e he => by
  obtain ⟨s, h1, h2, h3, h4⟩ := h.fw e he
  exact ⟨s, h1, h2, h3, hc _ _ h4⟩, h.bw⟩
theorem Sd.alive (h : Sd Ct k L SL) {hs hg : Int} (ha : aliveB SL k hs hg = true) : ∃ e s, e ∈ L ∧ hs = e.slot ∧ e.gen = hg ∧ SL[e.slot]? = some s ∧ s.who = k ∧ s.gen = hg ∧ Ct e s.x := by
  obtain ⟨i, s, rfl, h1, h2, h3⟩ := aliveB_some ha
  obtain ⟨e, he, rfl⟩ := h.bw i s h1 h2
  obtain ⟨s', h4, h5, h6, h7⟩ := h.fw e he
  rw [h1] at h4
  injection h4 with h4
  subst h4
  exact ⟨e, s, he, rfl, by rw [h6, h3], h1, h2, h3, h7⟩
theorem Sd.dead (h : Sd Ct k L SL) {hs hg : Int} (ha : aliveB SL k hs hg = false) : ∀ e, e ∈ L → ¬ (hs = (e.slot : Int) ∧ e.gen = hg) := by
  rintro e he ⟨rfl, rfl⟩
  obtain ⟨s, h1, h2, h3, _⟩ := h.fw e he
  rw [h3, aliveB_of h1 h2] at ha
  cases ha
theorem set_get {i j : Nat} {s y : Sl} (hs : SL[i]? = some s) : (SL.set i y)[j]? = if i = j then some y else SL[j]? := by
  rw [List.getElem?_set]
  by_cases h : i = j
  · rw [if_pos h, if_pos h, if_pos (List.getElem?_eq_some_iff.1 hs).1]
  · rw [if_neg h, if_neg h]
/-- A slot that another arena has, or gets. -/
theorem Sd.other (h : Sd Ct k L SL) {i : Nat} {s y : Sl} (hs : SL[i]? = some s) (h1 : s.who ≠ k) (h2 : y.who ≠ k) : Sd Ct k L (SL.set i y) := by
  refine ⟨fun e he => ?_, fun j t ht hk => ?_⟩
  · obtain ⟨t, g1, g2, g3, g4⟩ := h.fw e he
    refine ⟨t, ?_, g2, g3, g4⟩
    rw [set_get hs, if_neg (fun hh => ?_)]
    · exact g1
    · rw [← hh, hs] at g1; injection g1 with g1; exact h1 (by rw [g1]; exact g2)
  · rw [set_get hs] at ht
    split at ht
    · injection ht with ht; exact absurd (by rw [ht]; exact hk) h2
    · exact h.bw j t ht hk
theorem Sd.put (h : Sd Ct k L SL) {e : AEnt} {s : Sl} {x : ByteArray} (hs : SL[e.slot]? = some s) (h1 : s.who ≠ k) (hg : e.gen = s.gen) (hc : Ct e x) : Sd Ct k (L ++ [e]) (SL.set e.slot ⟨s.gen, k, x⟩) := by
  refine ⟨fun e' he => ?_, fun j t ht hk => ?_⟩
  · rcases List.mem_append.1 he with he | he
    · obtain ⟨t, g1, g2, g3, g4⟩ := h.fw e' he
      refine ⟨t, ?_, g2, g3, g4⟩
      rw [set_get hs, if_neg (fun hh => ?_)]
      · exact g1
      · rw [← hh, hs] at g1; injection g1 with g1; exact h1 (by rw [g1]; exact g2)
    · simp at he; subst he
      exact ⟨⟨s.gen, k, x⟩, by rw [set_get hs, if_pos rfl], rfl, hg, hc⟩
  · rw [set_get hs] at ht
    split at ht
    · rename_i hh; exact ⟨e, by simp, hh⟩
    · obtain ⟨e', he', hj⟩ := h.bw j t ht hk
      exact ⟨e', List.mem_append_left _ he', hj⟩
theorem Sd.drop (h : Sd Ct k L SL) {i : Nat} {s y : Sl} (hs : SL[i]? = some s) (h2 : y.who ≠ k) : Sd Ct k (L.filter fun e => e.slot ≠ i) (SL.set i y) := by
  refine ⟨fun e he => ?_, fun j t ht hk => ?_⟩
  · have he := List.mem_filter.1 he
    obtain ⟨t, g1, g2, g3, g4⟩ := h.fw e he.1
    have hne : ¬ e.slot = i := by simpa using he.2
    exact ⟨t, by rw [set_get hs, if_neg (fun hh => hne hh.symm)]; exact g1, g2, g3, g4⟩
  · rw [set_get hs] at ht
    split at ht
    · injection ht with ht; exact absurd (by rw [ht]; exact hk) h2
    · rename_i hij
      obtain ⟨e, he, hj⟩ := h.bw j t ht hk
      exact ⟨e, List.mem_filter.2 ⟨he, by simp; omega⟩, hj⟩
theorem Sd.write (h : Sd Ct k L SL) {x : AEnt} {s : Sl} {xs : List Value} {t : ByteArray} (hs : SL[x.slot]? = some s) (hk : s.who = k) (hc : ∀ e : AEnt, Ct { e with xs := xs } t) : Sd Ct k (L.map fun e => if e.slot = x.slot then { e with xs := xs } else e) (SL.set x.slot ⟨s.gen, s.who, t⟩) := by
  refine ⟨fun e he => ?_, fun j u hu hku => ?_⟩
  · obtain ⟨e0, he0, rfl⟩ := List.mem_map.1 he
    obtain ⟨u, g1, g2, g3, g4⟩ := h.fw e0 he0
    by_cases hh : e0.slot = x.slot
    · rw [if_pos hh]
      rw [hh, hs] at g1
      injection g1 with g1
      subst g1
      exact ⟨⟨s.gen, s.who, t⟩, by show (SL.set x.slot _)[e0.slot]? = _; rw [set_get hs, if_pos hh.symm], hk, g3, hc e0⟩
    · rw [if_neg hh]
      exact ⟨u, by rw [set_get hs, if_neg (fun e => hh e.symm)]; exact g1, g2, g3, g4⟩
  · rw [set_get hs] at hu
    have : ∃ u', SL[j]? = some u' ∧ u'.who = k := by
      split at hu
      · rename_i hj; exact ⟨s, by rw [← hj]; exact hs, hk⟩
      · exact ⟨u, hu, hku⟩
    obtain ⟨u', h1, h2⟩ := this
    obtain ⟨e, he, hj⟩ := h.bw j u' h1 h2
    refine ⟨_, List.mem_map.2 ⟨e, he, rfl⟩, ?_⟩
    split <;> exact hj
end
/-! ### The law's world -/
def CtS (e : AEnt) (x : ByteArray) : Prop := e.xs = [.string x]
def CtT (w : World) (ρ : Nat → Nat) (e : AEnt) (x : ByteArray) : Prop := ∃ b, e.xs = [.slice (some ⟨b, 0, none⟩) 1 1] ∧ ρ b = 7 ∧ w.heap[b]? = some (.cells #[.string x] 9)
def arS (A : AR) : ArD := ⟨89, 94, A⟩
def arT (A : AR) : ArD := ⟨113, 131, A⟩
def gensOf (SL : List Sl) : List Int := SL.map Sl.gen
def RfB (w : World) (ρ : Nat → Nat) (wp : Option Nat) (SLr : List Sl) (ra : Option Addr) (rc : Nat) : Prop := match wp with
  | none => SLr = []
  | some b => RfQ w b ra rc SLr ∧ ρ b = 6 ∧ ∀ q, (Value.slice ra SLr.length rc).ownBlock = some q → ρ q = 6
theorem RfB.ru {w0 w w' : World} {ρ ρ' : Nat → Nat} {wp : Option Nat} {SLr : List Sl} {ra : Option Addr} {rc : Nat} {rs : List Nat} (h : RfB w ρ wp SLr ra rc) (ho : Ro w0 w ρ) (hu : RU rs w w' ρ ρ') (h6 : 6 ∉ rs) : RfB w' ρ' wp SLr ra rc := by
  have hro : ∀ k, ρ k ≠ 0 → ρ' k = ρ k := fun k hk => hu.role k (ho.lt hk)
  cases wp with
  | none => exact h
  | some b =>
    obtain ⟨hR, hb, hq⟩ := h
    exact ⟨⟨hu.heap hR.blk (by rw [hb]; exact h6), hu.row hR.row (fun q hq' => by rw [hq q hq']; exact h6)⟩, by rw [hro _ (by rw [hb]; decide)]; exact hb, fun q hq' => by rw [hro _ (by rw [hq q hq']; decide)]; exact hq q hq'⟩
theorem RfB.rf {w : World} {ρ : Nat → Nat} {wp : Option Nat} {SLr : List Sl} {ra : Option Addr} {rc : Nat} (h : RfB w ρ wp SLr ra rc) : Rf w wp SLr := by
  cases wp with
  | none => exact h
  | some b => exact h.1.rf
/-- The document's pool: its block, and the place and room of its row (which never change). -/
abbrev RB := Option (Nat × Option Addr × Nat)
def wpo (wp : RB) : Option Nat := wp.map (·.1)
/-- The law's own blocks: its struct, the handles told, the document's pool, what is kept. -/
structure LB (w : World) (ρ : Nat → Nat) (xb : Nat) (P : PBk) (wp : RB) (SLr : List Sl) (told : List (Int × Int)) (K : List (Nat × Obj)) (aa ca ba : Nat) (toa : Option Addr) (toc : Nat) (ra : Option Addr) (rc : Nat) : Prop where
  xr : ρ xb = 4
  xblk : w.heap[xb]? = some (.cells #[.pointer (paddr P), .pointer (some ⟨aa, 0, none⟩), .pointer (some ⟨ca, 0, none⟩), .pointer (some ⟨ba, 0, none⟩), rptr (wpo wp), .slice toa told.length toc] 73)
  tr : Row 0 40 2 hcell w (.slice toa told.length toc) told
  trr : ∀ q, (Value.slice toa told.length toc).ownBlock = some q → ρ q = 5
  rf : RfB w ρ (wpo wp) SLr ra rc
  kp : ∀ x, x ∈ K → ρ x.1 = 8 ∧ w.heap[x.1]? = some x.2
structure AX (w0 w : World) (xb : Nat) (P : PBk) (wp : RB) (SLp SLr : List Sl) (told : List (Int × Int)) (K : List (Nat × Obj)) (ρ : Nat → Nat) (A B C : AR) (toa : Option Addr) (toc : Nat) (ra : Option Addr) (rc : Nat) : Prop where
  ro : Ro w0 w ρ
  ars : Ars w ρ P (gensOf SLp) (freeOf SLp) [arS A, arT B, arS C]
  sa : Sd CtS 1 A.L SLp
  sb : Sd (CtT w ρ) 2 B.L SLp
  sc : Sd CtS 3 C.L SLp
  lb : LB w ρ xb P wp SLr told K A.a C.a B.a toa toc ra rc
  bd : (SLp.length ≤ 4096 ∧ SLr.length ≤ 4096) ∧ ∀ q, wp = some q → q.2 = (ra, rc)
def AW (w0 w : World) (xb : Nat) (P : PBk) (wp : RB) (SLp SLr : List Sl) (told : List (Int × Int)) (K : List (Nat × Obj)) : Prop := ∃ ρ A B C toa toc ra rc, AX w0 w xb P wp SLp SLr told K ρ A B C toa toc ra rc
section
variable {w0 w w' : World} {xb : Nat} {P : PBk} {wp : RB} {SLp SLr SL' : List Sl} {told : List (Int × Int)} {K : List (Nat × Obj)} {ρ ρ' : Nat → Nat} {A B C : AR} {aa ca ba : Nat} {toa : Option Addr} {toc : Nat} {ra : Option Addr} {rc : Nat} {rs : List Nat}
theorem LB.ru (h : LB w ρ xb P wp SLr told K aa ca ba toa toc ra rc) (ho : Ro w0 w ρ) (hu : RU rs w w' ρ ρ') (h4 : 4 ∉ rs) (h5 : 5 ∉ rs) (h6 : 6 ∉ rs) (h7 : 8 ∉ rs) : LB w' ρ' xb P wp SLr told K aa ca ba toa toc ra rc := by
  have hro : ∀ k, ρ k ≠ 0 → ρ' k = ρ k := fun k hk => hu.role k (ho.lt hk)
  refine ⟨by rw [hro _ (by rw [h.xr]; decide)]; exact h.xr, hu.heap h.xblk (by rw [h.xr]; exact h4), hu.row h.tr (fun q hq => by rw [h.trr q hq]; exact h5), fun q hq => by rw [hro _ (by rw [h.trr q hq]; decide)]; exact h.trr q hq, h.rf.ru ho hu h6, fun x hx => ⟨by rw [hro _ (by rw [(h.kp x hx).1]; decide)]; exact (h.kp x hx).1, hu.heap (h.kp x hx).2 (by rw [(h.kp x hx).1]; exact h7)⟩⟩
theorem CtT.ru {e : AEnt} {x : ByteArray} (h : CtT w ρ e x) (ho : Ro w0 w ρ) (hu : RU rs w w' ρ ρ') (h7 : 7 ∉ rs) : CtT w' ρ' e x := by
  obtain ⟨b, h1, h2, h3⟩ := h
  exact ⟨b, h1, by rw [hu.role b (ho.lt (by rw [h2]; decide))]; exact h2, hu.heap h3 (by rw [h2]; exact h7)⟩
theorem AX.below (h : AX w0 w xb P wp SLp SLr told K ρ A B C toa toc ra rc) (hb : Below w.heap.size w w') : AX w0 w' xb P wp SLp SLr told K ρ A B C toa toc ra rc := by
  have hu : RU [] w w' ρ ρ := RU.below h.ro hb
  exact ⟨h.ro.step hu (by simp), h.ars.ru hu (by simp), h.sa, h.sb.imp (fun e x hc => hc.ru h.ro hu (by simp)), h.sc, h.lb.ru h.ro hu (by simp) (by simp) (by simp) (by simp), h.bd⟩
theorem AW.below (h : AW w0 w xb P wp SLp SLr told K) (hb : Below w.heap.size w w') : AW w0 w' xb P wp SLp SLr told K := by
  obtain ⟨ρ, A, B, C, toa, toc, ra, rc, h⟩ := h
  exact ⟨ρ, A, B, C, toa, toc, ra, rc, h.below hb⟩
theorem AW.bel (h : AW w0 w xb P wp SLp SLr told K) : Below w0.heap.size w0 w := by
  obtain ⟨ρ, A, B, C, toa, toc, ra, rc, h⟩ := h
  exact h.ro.bel
/-- A new block that stays. -/
theorem AX.alloc (h : AX w0 w xb P wp SLp SLr told K ρ A B C toa toc ra rc) (o : Obj) : AX w0 (w.alloc o) xb P wp SLp SLr told (K ++ [(w.heap.size, o)]) (mark ρ w.heap.size 8) A B C toa toc ra rc := by
  have hu : RU [] w (w.alloc o) ρ (mark ρ w.heap.size 8) := (RU.below h.ro ((Below.refl _ _).alloc (Nat.le_refl _) o)).mark (Nat.le_refl _) (by simp)
  have hl := h.lb.ru h.ro hu (by simp) (by simp) (by simp) (by simp)
  refine ⟨h.ro.step hu (by simp), h.ars.ru hu (by simp), h.sa, h.sb.imp (fun e x hc => hc.ru h.ro hu (by simp)), h.sc, ⟨hl.xr, hl.xblk, hl.tr, hl.trr, hl.rf, fun x hx => ?_⟩, h.bd⟩
  rcases List.mem_append.1 hx with hx | hx
  · exact hl.kp x hx
  · simp at hx; subst hx
    exact ⟨mark_self, heap_alloc_new _ _⟩
/-- A new block, a thing's list. -/
theorem AX.alloc7 (h : AX w0 w xb P wp SLp SLr told K ρ A B C toa toc ra rc) (o : Obj) : AX w0 (w.alloc o) xb P wp SLp SLr told K (mark ρ w.heap.size 7) A B C toa toc ra rc := by
  have hu : RU [] w (w.alloc o) ρ (mark ρ w.heap.size 7) := (RU.below h.ro ((Below.refl _ _).alloc (Nat.le_refl _) o)).mark (Nat.le_refl _) (by simp)
  exact ⟨h.ro.step hu (by simp), h.ars.ru hu (by simp), h.sa, h.sb.imp (fun e x hc => hc.ru h.ro hu (by simp)), h.sc, h.lb.ru h.ro hu (by simp) (by simp) (by simp) (by simp), h.bd⟩
theorem AW.alloc (h : AW w0 w xb P wp SLp SLr told K) (o : Obj) : AW w0 (w.alloc o) xb P wp SLp SLr told (K ++ [(w.heap.size, o)]) := by
  obtain ⟨ρ, A, B, C, toa, toc, ra, rc, h⟩ := h
  exact ⟨_, A, B, C, toa, toc, ra, rc, h.alloc o⟩
theorem AW.box (h : AW w0 w xb P wp SLp SLr told K) {x : Nat × Obj} (hx : x ∈ K) : w.heap[x.1]? = some x.2 := by
  obtain ⟨ρ, A, B, C, toa, toc, ra, rc, h⟩ := h
  exact (h.lb.kp x hx).2
theorem AW.keepK (h : AW w0 w xb P wp SLp SLr told K) {K' : List (Nat × Obj)} (hK : ∀ x, x ∈ K' → x ∈ K) : AW w0 w xb P wp SLp SLr told K' := by
  obtain ⟨ρ, A, B, C, toa, toc, ra, rc, h⟩ := h
  exact ⟨ρ, A, B, C, toa, toc, ra, rc, h.ro, h.ars, h.sa, h.sb, h.sc, ⟨h.lb.xr, h.lb.xblk, h.lb.tr, h.lb.trr, h.lb.rf, fun x hx => h.lb.kp x (hK x hx)⟩, h.bd⟩
end
end Go.Proofs.Ytoknkedmpdcinaa
