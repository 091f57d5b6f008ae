/- The law ArenaPlays: what a step of one of the three arenas leaves of the law's world. -/
import Derived.Test.YtoknkedmpdcinaaPlaysF
namespace Go.Proofs.Ytoknkedmpdcinaa
open Go.RowKit
theorem gens_set {SL : List Sl} {i : Nat} {s y : Sl} (hs : SL[i]? = some s) (hy : y.gen = IntKind.u64.wrap (s.gen + 1)) : (gensOf SL).set i (IntKind.u64.wrap ((gensOf SL).getD i 0 + 1)) = gensOf (SL.set i y) := by
  have h1 : (gensOf SL).getD i 0 = s.gen := by rw [List.getD_eq_getElem?_getD, gensOf, List.getElem?_map, hs]; rfl
  rw [h1, gensOf, gensOf, List.map_set, hy]
theorem gens_same {SL : List Sl} {i : Nat} {s y : Sl} (hs : SL[i]? = some s) (hy : y.gen = s.gen) : gensOf (SL.set i y) = gensOf SL := by
  apply List.ext_getElem?
  intro j
  unfold gensOf
  rw [List.getElem?_map, List.getElem?_map, set_get hs]
  split
  · rename_i h; subst h; rw [hs]; simp [hy]
  · rfl
theorem free_set {SL : List Sl} {i : Nat} {y : Sl} : freeOf (SL.set i y) = (freeOf SL).set i (y.who == 0) := by simp [freeOf, List.map_set]
theorem free_same {SL : List Sl} {i : Nat} {s y : Sl} (hs : SL[i]? = some s) (hy : y.who = s.who) : freeOf (SL.set i y) = freeOf SL := by
  apply List.ext_getElem?
  intro j
  unfold freeOf
  rw [List.getElem?_map, List.getElem?_map, set_get hs]
  split
  · rename_i h; subst h; rw [hs]; simp [hy]
  · rfl
theorem gens_at {SL : List Sl} {i : Nat} {s : Sl} (hs : SL[i]? = some s) : (gensOf SL).getD i 0 = s.gen := by rw [List.getD_eq_getElem?_getD, gensOf, List.getElem?_map, hs]; rfl
theorem handsR_mem {k : Nat} {SL : List Sl} {a : Int × Int} : a ∈ handsR k SL ↔ ∃ (i : Nat) (s : Sl), SL[i]? = some s ∧ s.who = k ∧ a = ((i : Int), s.gen) := by
  unfold handsR
  simp only [List.mem_map, List.mem_filter, beq_iff_eq]
  constructor
  · rintro ⟨⟨s, i⟩, ⟨h1, h2⟩, rfl⟩
    exact ⟨i, s, List.mem_zipIdx_iff_getElem?.1 h1, h2, rfl⟩
  · rintro ⟨i, s, h1, h2, rfl⟩
    refine ⟨(s, i), ⟨?_, h2⟩, rfl⟩
    rw [List.mem_zipIdx_iff_getElem?]
    exact h1
theorem handsR_sorted (k : Nat) (SL : List Sl) : (handsR k SL).Pairwise (fun x y => x.1 < y.1) := by
  unfold handsR
  rw [List.pairwise_map]
  refine List.Pairwise.filter _ ?_
  rw [List.pairwise_iff_getElem]
  intro i j hi hj hij
  simp
  omega
theorem Sd.hands {Ct : AEnt → ByteArray → Prop} {k : Nat} {L : List AEnt} {SL : List Sl} (h : Sd Ct k L SL) (hn : (L.map AEnt.slot).Nodup) : handsOf L = handsR k SL := by
  refine (slots_sorted hn (perm_of_nodup ((handsR_sorted k SL).imp (fun hab hh => by rw [hh] at hab; omega)) ?_ fun a => ?_) ((handsR_sorted k SL).imp (fun hab => by omega))).symm
  · have : ((L.map hof).map (fun p => p.1.toNat)).Nodup := by
      rw [List.map_map]
      exact hn
    exact List.Pairwise.of_map (f := fun p : Int × Int => p.1.toNat) (fun _ _ hh e => hh (by rw [e])) this
  · rw [handsR_mem, List.mem_map]
    constructor
    · rintro ⟨i, s, h1, h2, rfl⟩
      obtain ⟨e, he, rfl⟩ := h.bw i s h1 h2
      obtain ⟨s', h3, _, h4, _⟩ := h.fw e he
      rw [h1] at h3; injection h3 with h3; subst h3
      exact ⟨e, he, by unfold hof; rw [h4]⟩
    · rintro ⟨e, he, rfl⟩
      obtain ⟨s, h1, h2, h3, _⟩ := h.fw e he
      exact ⟨e.slot, s, h1, h2, by unfold hof; rw [h3]⟩
theorem handsOf_len (L : List AEnt) : (handsOf L).length = L.length := by unfold handsOf; rw [List.length_mergeSort, List.length_map]
section
variable {w0 w w' : World} {xb : Nat} {P : PBk} {p g f : Nat} {wp : RB} {SLp SLr SL' : List Sl} {told : List (Int × Int)} {K : List (Nat × Obj)} {ρ ρ' : Nat → Nat} {A B C : AR} {aa ca ba : Nat} {toa : Option Addr} {toc : Nat} {ra : Option Addr} {rc : Nat} {rs : List Nat}
theorem AX.pool (h : AX w0 w xb P wp SLp SLr told K ρ A B C toa toc ra rc) (hn : SLp ≠ []) : ∃ p g f, P = some (p, g, f) := by
  cases P with
  | none => exact absurd (by have := h.ars.pool.1; unfold gensOf at this; simpa using this) hn
  | some q => exact ⟨q.1, q.2.1, q.2.2, rfl⟩

theorem AX.relA (h : AX w0 w xb (some (p, g, f)) wp SLp SLr told K ρ A B C toa toc ra rc) {x : AEnt} {s : Sl} (hx : x ∈ A.L) (hs : SLp[x.slot]? = some s) (hk : s.who = 1)
    (hu : Upd [p, g, f, A.m] w w') (hp : PoolIs w' p g f ((gensOf SLp).set x.slot (IntKind.u64.wrap ((gensOf SLp).getD x.slot 0 + 1))) ((freeOf SLp).set x.slot true)) (hA : ArenaG (arS A).ta (arS A).tc w' [p, g, f, A.m] (some ⟨p, 0, none⟩) { A with L := A.L.filter fun e => e.slot ≠ x.slot }) :
    AX w0 w' xb (some (p, g, f)) wp (SLp.set x.slot ⟨IntKind.u64.wrap (s.gen + 1), 0, ⟨#[]⟩⟩) SLr told K ρ { A with L := A.L.filter fun e => e.slot ≠ x.slot } B C toa toc ra rc := by
  have hsep : ∀ j d' e, j ≠ 0 → [arS A, arT B, arS C][j]? = some d' → e ∈ d'.A.L → e.slot ≠ x.slot := by
    intro j d' e hj hd he hh
    have hw : ∃ t, SLp[e.slot]? = some t ∧ t.who ≠ 1 := by
      rcases j with _ | _ | _ | j
      · exact absurd rfl hj
      · simp at hd; subst hd; obtain ⟨t, g1, g2, _⟩ := h.sb.fw e he; exact ⟨t, g1, by rw [g2]; decide⟩
      · simp at hd; subst hd; obtain ⟨t, g1, g2, _⟩ := h.sc.fw e he; exact ⟨t, g1, by rw [g2]; decide⟩
      · simp at hd
    obtain ⟨t, g1, g2⟩ := hw
    rw [hh, hs] at g1
    injection g1 with g1
    exact g2 (by rw [← g1]; exact hk)
  obtain ⟨hars, hU⟩ := h.ars.release h.ro (i := 0) (d := arS A) rfl hx hsep hu hp hA
  rw [gens_set hs (y := ⟨IntKind.u64.wrap (s.gen + 1), 0, ⟨#[]⟩⟩) rfl] at hars
  refine ⟨h.ro.step hU (by simp), ?_, h.sa.drop hs (by show (0 : Nat) ≠ 1; decide), (h.sb.imp (fun e x hc => hc.ru h.ro hU (by simp))).other hs (by rw [hk]; decide) (by show (0 : Nat) ≠ 2; decide), h.sc.other hs (by rw [hk]; decide) (by show (0 : Nat) ≠ 3; decide), h.lb.ru h.ro hU (by simp) (by simp) (by simp) (by simp), by rw [List.length_set]; exact h.bd⟩
  rw [free_set]
  exact hars

theorem AX.putA (h : AX w0 w xb (some (p, g, f)) wp SLp SLr told K ρ A B C toa toc ra rc) {s : Sl} {y : ByteArray} {b : Nat} (hn : true ∈ freeOf SLp) (hs : SLp[(freeOf SLp).idxOf true]? = some s) (h0 : s.who = 0)
    (hu : Upd [p, f, A.m] w w') (hp : PoolIs w' p g f (gensOf SLp) ((freeOf SLp).set ((freeOf SLp).idxOf true) false)) (hb : w.heap.size ≤ b) (hA : ArenaG (arS A).ta (arS A).tc w' [p, g, f, A.m] (some ⟨p, 0, none⟩) { A with L := A.L ++ [⟨(freeOf SLp).idxOf true, (gensOf SLp).getD ((freeOf SLp).idxOf true) 0, b, [.string y], A.c⟩], c := A.c + 1 }) :
    AX w0 w' xb (some (p, g, f)) wp (SLp.set ((freeOf SLp).idxOf true) ⟨s.gen, 1, y⟩) SLr told K (mark ρ b 10) { A with L := A.L ++ [⟨(freeOf SLp).idxOf true, (gensOf SLp).getD ((freeOf SLp).idxOf true) 0, b, [.string y], A.c⟩], c := A.c + 1 } B C toa toc ra rc := by
  obtain ⟨hars, hU⟩ := h.ars.alloc h.ro (i := 0) (d := arS A) rfl hn hu hp hb hA
  refine ⟨h.ro.step hU (by simp), ?_, h.sa.put (e := ⟨(freeOf SLp).idxOf true, (gensOf SLp).getD ((freeOf SLp).idxOf true) 0, b, [.string y], A.c⟩) (s := s) (x := y) hs (by rw [h0]; decide) (gens_at hs) (rfl), (h.sb.imp (fun e x hc => hc.ru h.ro hU (by simp))).other hs (by rw [h0]; decide) (by show (1 : Nat) ≠ 2; decide), h.sc.other hs (by rw [h0]; decide) (by show (1 : Nat) ≠ 3; decide), h.lb.ru h.ro hU (by simp) (by simp) (by simp) (by simp), by rw [List.length_set]; exact h.bd⟩
  rw [free_set, gens_same hs (y := ⟨s.gen, 1, y⟩) rfl]
  exact hars

theorem AX.wrA (h : AX w0 w xb P wp SLp SLr told K ρ A B C toa toc ra rc) {x : AEnt} {s : Sl} {y : ByteArray} (hx : x ∈ A.L) (hs : SLp[x.slot]? = some s) (hk : s.who = 1) (hu : Upd [x.blk] w w') (hb : w'.heap[x.blk]? = some (.cells (.int .u64 x.gen :: [.string y]).toArray (arS A).tc)) :
    AX w0 w' xb P wp (SLp.set x.slot ⟨s.gen, s.who, y⟩) SLr told K ρ { A with L := A.L.map fun e => if e.slot = x.slot then { e with xs := [.string y] } else e } B C toa toc ra rc := by
  obtain ⟨hars, hU⟩ := h.ars.write h.ro (i := 0) (d := arS A) rfl hx hu hb
  refine ⟨h.ro.step hU (by simp), ?_, h.sa.write hs hk (fun _ => rfl), (h.sb.imp (fun e x hc => hc.ru h.ro hU (by simp))).other hs (by rw [hk]; decide) (by show s.who ≠ _; rw [hk]; decide), h.sc.other hs (by rw [hk]; decide) (by show s.who ≠ _; rw [hk]; decide), h.lb.ru h.ro hU (by simp) (by simp) (by simp) (by simp), by rw [List.length_set]; exact h.bd⟩
  rw [free_same hs (y := ⟨s.gen, s.who, y⟩) rfl, gens_same hs (y := ⟨s.gen, s.who, y⟩) rfl]
  exact hars

theorem AX.relB (h : AX w0 w xb (some (p, g, f)) wp SLp SLr told K ρ A B C toa toc ra rc) {x : AEnt} {s : Sl} (hx : x ∈ B.L) (hs : SLp[x.slot]? = some s) (hk : s.who = 2)
    (hu : Upd [p, g, f, B.m] w w') (hp : PoolIs w' p g f ((gensOf SLp).set x.slot (IntKind.u64.wrap ((gensOf SLp).getD x.slot 0 + 1))) ((freeOf SLp).set x.slot true)) (hA : ArenaG (arT B).ta (arT B).tc w' [p, g, f, B.m] (some ⟨p, 0, none⟩) { B with L := B.L.filter fun e => e.slot ≠ x.slot }) :
    AX w0 w' xb (some (p, g, f)) wp (SLp.set x.slot ⟨IntKind.u64.wrap (s.gen + 1), 0, ⟨#[]⟩⟩) SLr told K ρ A { B with L := B.L.filter fun e => e.slot ≠ x.slot } C toa toc ra rc := by
  have hsep : ∀ j d' e, j ≠ 1 → [arS A, arT B, arS C][j]? = some d' → e ∈ d'.A.L → e.slot ≠ x.slot := by
    intro j d' e hj hd he hh
    have hw : ∃ t, SLp[e.slot]? = some t ∧ t.who ≠ 2 := by
      rcases j with _ | _ | _ | j
      · simp at hd; subst hd; obtain ⟨t, g1, g2, _⟩ := h.sa.fw e he; exact ⟨t, g1, by rw [g2]; decide⟩
      · exact absurd rfl hj
      · simp at hd; subst hd; obtain ⟨t, g1, g2, _⟩ := h.sc.fw e he; exact ⟨t, g1, by rw [g2]; decide⟩
      · simp at hd
    obtain ⟨t, g1, g2⟩ := hw
    rw [hh, hs] at g1
    injection g1 with g1
    exact g2 (by rw [← g1]; exact hk)
  obtain ⟨hars, hU⟩ := h.ars.release h.ro (i := 1) (d := arT B) rfl hx hsep hu hp hA
  rw [gens_set hs (y := ⟨IntKind.u64.wrap (s.gen + 1), 0, ⟨#[]⟩⟩) rfl] at hars
  refine ⟨h.ro.step hU (by simp), ?_, h.sa.other hs (by rw [hk]; decide) (by show (0 : Nat) ≠ 1; decide), (h.sb.imp (fun e x hc => hc.ru h.ro hU (by simp))).drop hs (by show (0 : Nat) ≠ 2; decide), h.sc.other hs (by rw [hk]; decide) (by show (0 : Nat) ≠ 3; decide), h.lb.ru h.ro hU (by simp) (by simp) (by simp) (by simp), by rw [List.length_set]; exact h.bd⟩
  rw [free_set]
  exact hars

theorem AX.putB (h : AX w0 w xb (some (p, g, f)) wp SLp SLr told K ρ A B C toa toc ra rc) {s : Sl} {y : ByteArray} {b : Nat} {lb : Nat} (hlb1 : ρ lb = 7) (hlb2 : w.heap[lb]? = some (.cells #[.string y] 9)) (hn : true ∈ freeOf SLp) (hs : SLp[(freeOf SLp).idxOf true]? = some s) (h0 : s.who = 0)
    (hu : Upd [p, f, B.m] w w') (hp : PoolIs w' p g f (gensOf SLp) ((freeOf SLp).set ((freeOf SLp).idxOf true) false)) (hb : w.heap.size ≤ b) (hA : ArenaG (arT B).ta (arT B).tc w' [p, g, f, B.m] (some ⟨p, 0, none⟩) { B with L := B.L ++ [⟨(freeOf SLp).idxOf true, (gensOf SLp).getD ((freeOf SLp).idxOf true) 0, b, [.slice (some ⟨lb, 0, none⟩) 1 1], B.c⟩], c := B.c + 1 }) :
    AX w0 w' xb (some (p, g, f)) wp (SLp.set ((freeOf SLp).idxOf true) ⟨s.gen, 2, y⟩) SLr told K (mark ρ b 13) A { B with L := B.L ++ [⟨(freeOf SLp).idxOf true, (gensOf SLp).getD ((freeOf SLp).idxOf true) 0, b, [.slice (some ⟨lb, 0, none⟩) 1 1], B.c⟩], c := B.c + 1 } C toa toc ra rc := by
  obtain ⟨hars, hU⟩ := h.ars.alloc h.ro (i := 1) (d := arT B) rfl hn hu hp hb hA
  refine ⟨h.ro.step hU (by simp), ?_, h.sa.other hs (by rw [h0]; decide) (by show (2 : Nat) ≠ 1; decide), (h.sb.imp (fun e x hc => hc.ru h.ro hU (by simp))).put (e := ⟨(freeOf SLp).idxOf true, (gensOf SLp).getD ((freeOf SLp).idxOf true) 0, b, [.slice (some ⟨lb, 0, none⟩) 1 1], B.c⟩) (s := s) (x := y) hs (by rw [h0]; decide) (gens_at hs) (⟨lb, rfl, by rw [hU.role lb (h.ro.lt (by rw [hlb1]; decide))]; exact hlb1, hU.heap hlb2 (by rw [hlb1]; simp)⟩), h.sc.other hs (by rw [h0]; decide) (by show (2 : Nat) ≠ 3; decide), h.lb.ru h.ro hU (by simp) (by simp) (by simp) (by simp), by rw [List.length_set]; exact h.bd⟩
  rw [free_set, gens_same hs (y := ⟨s.gen, 2, y⟩) rfl]
  exact hars

theorem AX.wrB (h : AX w0 w xb P wp SLp SLr told K ρ A B C toa toc ra rc) {x : AEnt} {s : Sl} {y : ByteArray} {lb : Nat} (hlb1 : ρ lb = 7) (hlb2 : w.heap[lb]? = some (.cells #[.string y] 9)) (hx : x ∈ B.L) (hs : SLp[x.slot]? = some s) (hk : s.who = 2) (hu : Upd [x.blk] w w') (hb : w'.heap[x.blk]? = some (.cells (.int .u64 x.gen :: [.slice (some ⟨lb, 0, none⟩) 1 1]).toArray (arT B).tc)) :
    AX w0 w' xb P wp (SLp.set x.slot ⟨s.gen, s.who, y⟩) SLr told K ρ A { B with L := B.L.map fun e => if e.slot = x.slot then { e with xs := [.slice (some ⟨lb, 0, none⟩) 1 1] } else e } C toa toc ra rc := by
  obtain ⟨hars, hU⟩ := h.ars.write h.ro (i := 1) (d := arT B) rfl hx hu hb
  refine ⟨h.ro.step hU (by simp), ?_, h.sa.other hs (by rw [hk]; decide) (by show s.who ≠ _; rw [hk]; decide), (h.sb.imp (fun e x hc => hc.ru h.ro hU (by simp))).write hs hk (fun _ => ⟨lb, rfl, hlb1, hU.heap hlb2 (by rw [hlb1]; simp)⟩), h.sc.other hs (by rw [hk]; decide) (by show s.who ≠ _; rw [hk]; decide), h.lb.ru h.ro hU (by simp) (by simp) (by simp) (by simp), by rw [List.length_set]; exact h.bd⟩
  rw [free_same hs (y := ⟨s.gen, s.who, y⟩) rfl, gens_same hs (y := ⟨s.gen, s.who, y⟩) rfl]
  exact hars

theorem AX.relC (h : AX w0 w xb (some (p, g, f)) wp SLp SLr told K ρ A B C toa toc ra rc) {x : AEnt} {s : Sl} (hx : x ∈ C.L) (hs : SLp[x.slot]? = some s) (hk : s.who = 3)
    (hu : Upd [p, g, f, C.m] w w') (hp : PoolIs w' p g f ((gensOf SLp).set x.slot (IntKind.u64.wrap ((gensOf SLp).getD x.slot 0 + 1))) ((freeOf SLp).set x.slot true)) (hA : ArenaG (arS C).ta (arS C).tc w' [p, g, f, C.m] (some ⟨p, 0, none⟩) { C with L := C.L.filter fun e => e.slot ≠ x.slot }) :
    AX w0 w' xb (some (p, g, f)) wp (SLp.set x.slot ⟨IntKind.u64.wrap (s.gen + 1), 0, ⟨#[]⟩⟩) SLr told K ρ A B { C with L := C.L.filter fun e => e.slot ≠ x.slot } toa toc ra rc := by
  have hsep : ∀ j d' e, j ≠ 2 → [arS A, arT B, arS C][j]? = some d' → e ∈ d'.A.L → e.slot ≠ x.slot := by
    intro j d' e hj hd he hh
    have hw : ∃ t, SLp[e.slot]? = some t ∧ t.who ≠ 3 := by
      rcases j with _ | _ | _ | j
      · simp at hd; subst hd; obtain ⟨t, g1, g2, _⟩ := h.sa.fw e he; exact ⟨t, g1, by rw [g2]; decide⟩
      · simp at hd; subst hd; obtain ⟨t, g1, g2, _⟩ := h.sb.fw e he; exact ⟨t, g1, by rw [g2]; decide⟩
      · exact absurd rfl hj
      · simp at hd
    obtain ⟨t, g1, g2⟩ := hw
    rw [hh, hs] at g1
    injection g1 with g1
    exact g2 (by rw [← g1]; exact hk)
  obtain ⟨hars, hU⟩ := h.ars.release h.ro (i := 2) (d := arS C) rfl hx hsep hu hp hA
  rw [gens_set hs (y := ⟨IntKind.u64.wrap (s.gen + 1), 0, ⟨#[]⟩⟩) rfl] at hars
  refine ⟨h.ro.step hU (by simp), ?_, h.sa.other hs (by rw [hk]; decide) (by show (0 : Nat) ≠ 1; decide), (h.sb.imp (fun e x hc => hc.ru h.ro hU (by simp))).other hs (by rw [hk]; decide) (by show (0 : Nat) ≠ 2; decide), h.sc.drop hs (by show (0 : Nat) ≠ 3; decide), h.lb.ru h.ro hU (by simp) (by simp) (by simp) (by simp), by rw [List.length_set]; exact h.bd⟩
  rw [free_set]
  exact hars

theorem AX.putC (h : AX w0 w xb (some (p, g, f)) wp SLp SLr told K ρ A B C toa toc ra rc) {s : Sl} {y : ByteArray} {b : Nat} (hn : true ∈ freeOf SLp) (hs : SLp[(freeOf SLp).idxOf true]? = some s) (h0 : s.who = 0)
    (hu : Upd [p, f, C.m] w w') (hp : PoolIs w' p g f (gensOf SLp) ((freeOf SLp).set ((freeOf SLp).idxOf true) false)) (hb : w.heap.size ≤ b) (hA : ArenaG (arS C).ta (arS C).tc w' [p, g, f, C.m] (some ⟨p, 0, none⟩) { C with L := C.L ++ [⟨(freeOf SLp).idxOf true, (gensOf SLp).getD ((freeOf SLp).idxOf true) 0, b, [.string y], C.c⟩], c := C.c + 1 }) :
    AX w0 w' xb (some (p, g, f)) wp (SLp.set ((freeOf SLp).idxOf true) ⟨s.gen, 3, y⟩) SLr told K (mark ρ b 16) A B { C with L := C.L ++ [⟨(freeOf SLp).idxOf true, (gensOf SLp).getD ((freeOf SLp).idxOf true) 0, b, [.string y], C.c⟩], c := C.c + 1 } toa toc ra rc := by
  obtain ⟨hars, hU⟩ := h.ars.alloc h.ro (i := 2) (d := arS C) rfl hn hu hp hb hA
  refine ⟨h.ro.step hU (by simp), ?_, h.sa.other hs (by rw [h0]; decide) (by show (3 : Nat) ≠ 1; decide), (h.sb.imp (fun e x hc => hc.ru h.ro hU (by simp))).other hs (by rw [h0]; decide) (by show (3 : Nat) ≠ 2; decide), h.sc.put (e := ⟨(freeOf SLp).idxOf true, (gensOf SLp).getD ((freeOf SLp).idxOf true) 0, b, [.string y], C.c⟩) (s := s) (x := y) hs (by rw [h0]; decide) (gens_at hs) (rfl), h.lb.ru h.ro hU (by simp) (by simp) (by simp) (by simp), by rw [List.length_set]; exact h.bd⟩
  rw [free_set, gens_same hs (y := ⟨s.gen, 3, y⟩) rfl]
  exact hars

theorem AX.wrC (h : AX w0 w xb P wp SLp SLr told K ρ A B C toa toc ra rc) {x : AEnt} {s : Sl} {y : ByteArray} (hx : x ∈ C.L) (hs : SLp[x.slot]? = some s) (hk : s.who = 3) (hu : Upd [x.blk] w w') (hb : w'.heap[x.blk]? = some (.cells (.int .u64 x.gen :: [.string y]).toArray (arS C).tc)) :
    AX w0 w' xb P wp (SLp.set x.slot ⟨s.gen, s.who, y⟩) SLr told K ρ A B { C with L := C.L.map fun e => if e.slot = x.slot then { e with xs := [.string y] } else e } toa toc ra rc := by
  obtain ⟨hars, hU⟩ := h.ars.write h.ro (i := 2) (d := arS C) rfl hx hu hb
  refine ⟨h.ro.step hU (by simp), ?_, h.sa.other hs (by rw [hk]; decide) (by show s.who ≠ _; rw [hk]; decide), (h.sb.imp (fun e x hc => hc.ru h.ro hU (by simp))).other hs (by rw [hk]; decide) (by show s.who ≠ _; rw [hk]; decide), h.sc.write hs hk (fun _ => rfl), h.lb.ru h.ro hU (by simp) (by simp) (by simp) (by simp), by rw [List.length_set]; exact h.bd⟩
  rw [free_same hs (y := ⟨s.gen, s.who, y⟩) rfl, gens_same hs (y := ⟨s.gen, s.who, y⟩) rfl]
  exact hars
end
end Go.Proofs.Ytoknkedmpdcinaa
