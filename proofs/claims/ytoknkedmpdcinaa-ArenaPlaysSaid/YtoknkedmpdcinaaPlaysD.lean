/- The law ArenaPlays: every function in the law's world, by the arena's number; the document's functions there. -/
import Derived.Test.YtoknkedmpdcinaaPlaysI
namespace Go.Proofs.Ytoknkedmpdcinaa
open Go.RowKit
section
variable {w0 w w' : World} {xb : Nat} {P : PBk} {p g f : Nat} {wp : RB} {SLp SLr SL' : List Sl} {told : List (Int × Int)} {K : List (Nat × Obj)} {ρ ρ' : Nat → Nat} {A B C : AR} {aa ca ba : Nat} {toa : Option Addr} {toc : Nat} {ra : Option Addr} {rc : Nat} {rs : List Nat} {k : Nat}
theorem AW.get_alive (h : AW w0 w xb P wp SLp SLr told K) (hk : 1 ≤ k ∧ k ≤ 3) (i : Nat) (s : Sl) (hs : SLp[i]? = some s) (hw : s.who = k) :
    Calls Try.prog 48 #[.pointer (some ⟨xb, 0, none⟩), .int .i64 k, .agg #[.int .i64 i, .int .u64 s.gen]] w fun e w' => e = .returned (.tuple #[.string s.x, .bool true]) ∧ AW w0 w' xb P wp SLp SLr told K := by
  have h0 := h
  obtain ⟨ρ, A, B, C, toa, toc, ra, rc, h⟩ := h
  rcases (by omega : k = 1 ∨ k = 2 ∨ k = 3) with rfl | rfl | rfl
  · exact (getA_alive h i s hs hw).mono fun _ _ ⟨h1, h2⟩ => ⟨h1, h0.below h2⟩
  · exact (getB_alive h i s hs hw).mono fun _ _ ⟨h1, h2⟩ => ⟨h1, h0.below h2⟩
  · exact (getC_alive h i s hs hw).mono fun _ _ ⟨h1, h2⟩ => ⟨h1, h0.below h2⟩
theorem AW.get_dead (h : AW w0 w xb P wp SLp SLr told K) (hk : 1 ≤ k ∧ k ≤ 3) (hs hg : Int) (ha : aliveB SLp k hs hg = false) :
    Calls Try.prog 48 #[.pointer (some ⟨xb, 0, none⟩), .int .i64 k, .agg #[.int .i64 hs, .int .u64 hg]] w fun e w' => e = .returned (.tuple #[.string ⟨#[]⟩, .bool false]) ∧ AW w0 w' xb P wp SLp SLr told K := by
  have h0 := h
  obtain ⟨ρ, A, B, C, toa, toc, ra, rc, h⟩ := h
  rcases (by omega : k = 1 ∨ k = 2 ∨ k = 3) with rfl | rfl | rfl
  · exact (getA_dead h hs hg ha).mono fun _ _ ⟨h1, h2⟩ => ⟨h1, h0.below h2⟩
  · exact (getB_dead h hs hg ha).mono fun _ _ ⟨h1, h2⟩ => ⟨h1, h0.below h2⟩
  · exact (getC_dead h hs hg ha).mono fun _ _ ⟨h1, h2⟩ => ⟨h1, h0.below h2⟩
theorem AW.release_dead (h : AW w0 w xb P wp SLp SLr told K) (hk : 1 ≤ k ∧ k ≤ 3) (hs hg : Int) (ha : aliveB SLp k hs hg = false) :
    Calls Try.prog 45 #[.pointer (some ⟨xb, 0, none⟩), .int .i64 k, .agg #[.int .i64 hs, .int .u64 hg]] w fun e w' => e = .returned (.bool false) ∧ AW w0 w' xb P wp SLp SLr told K := by
  have h0 := h
  obtain ⟨ρ, A, B, C, toa, toc, ra, rc, h⟩ := h
  rcases (by omega : k = 1 ∨ k = 2 ∨ k = 3) with rfl | rfl | rfl
  · exact (releaseA_dead h hs hg ha).mono fun _ _ ⟨h1, h2⟩ => ⟨h1, h0.below h2⟩
  · exact (releaseB_dead h hs hg ha).mono fun _ _ ⟨h1, h2⟩ => ⟨h1, h0.below h2⟩
  · exact (releaseC_dead h hs hg ha).mono fun _ _ ⟨h1, h2⟩ => ⟨h1, h0.below h2⟩
theorem AW.release_alive (h : AW w0 w xb P wp SLp SLr told K) (hk : 1 ≤ k ∧ k ≤ 3) (i : Nat) (s : Sl) (hs : SLp[i]? = some s) (hw : s.who = k) :
    Calls Try.prog 45 #[.pointer (some ⟨xb, 0, none⟩), .int .i64 k, .agg #[.int .i64 i, .int .u64 s.gen]] w fun e w' => e = .returned (.bool true) ∧ AW w0 w' xb P wp (SLp.set i ⟨IntKind.u64.wrap (s.gen + 1), 0, ⟨#[]⟩⟩) SLr told K := by
  obtain ⟨ρ, A, B, C, toa, toc, ra, rc, h⟩ := h
  rcases (by omega : k = 1 ∨ k = 2 ∨ k = 3) with rfl | rfl | rfl
  · exact releaseA_alive h i s hs hw
  · exact releaseB_alive h i s hs hw
  · exact releaseC_alive h i s hs hw
theorem AW.alloc_full (h : AW w0 w xb P wp SLp SLr told K) (hk : 1 ≤ k ∧ k ≤ 3) (x : ByteArray) (hn : true ∉ freeOf SLp) :
    Calls Try.prog 43 #[.pointer (some ⟨xb, 0, none⟩), .int .i64 k, .string x] w fun e w' => e = .returned (.tuple #[.agg #[.int .i64 0, .int .u64 0], .int .i64 5]) ∧ AW w0 w' xb P wp SLp SLr told K := by
  have h0 := h
  obtain ⟨ρ, A, B, C, toa, toc, ra, rc, h⟩ := h
  rcases (by omega : k = 1 ∨ k = 2 ∨ k = 3) with rfl | rfl | rfl
  · exact (allocA_full h x hn).mono fun _ _ ⟨h1, h2⟩ => ⟨h1, h0.below h2⟩
  · exact (allocB_full h x hn).mono fun _ _ ⟨h1, h2⟩ => ⟨h1, h0.below h2⟩
  · exact (allocC_full h x hn).mono fun _ _ ⟨h1, h2⟩ => ⟨h1, h0.below h2⟩
theorem AW.alloc_some (h : AW w0 w xb P wp SLp SLr told K) (hk : 1 ≤ k ∧ k ≤ 3) (x : ByteArray) (hn : true ∈ freeOf SLp) (s : Sl) (hs : SLp[(freeOf SLp).idxOf true]? = some s) (hz : s.who = 0) :
    Calls Try.prog 43 #[.pointer (some ⟨xb, 0, none⟩), .int .i64 k, .string x] w fun e w' => e = .returned (.tuple #[.agg #[.int .i64 ((freeOf SLp).idxOf true : Nat), .int .u64 s.gen], .int .i64 0]) ∧ AW w0 w' xb P wp (SLp.set ((freeOf SLp).idxOf true) ⟨s.gen, k, x⟩) SLr told K := by
  obtain ⟨ρ, A, B, C, toa, toc, ra, rc, h⟩ := h
  rcases (by omega : k = 1 ∨ k = 2 ∨ k = 3) with rfl | rfl | rfl
  · exact allocA_some h x hn s hs hz
  · exact allocB_some h x hn s hs hz
  · exact allocC_some h x hn s hs hz
theorem AW.write_alive (h : AW w0 w xb P wp SLp SLr told K) (hk : 1 ≤ k ∧ k ≤ 3) (i : Nat) (s : Sl) (y : ByteArray) (hs : SLp[i]? = some s) (hw : s.who = k) :
    Calls Try.prog 47 #[.pointer (some ⟨xb, 0, none⟩), .int .i64 k, .agg #[.int .i64 i, .int .u64 s.gen], .string y] w fun e w' => e = .returned (.tuple #[]) ∧ AW w0 w' xb P wp (SLp.set i ⟨s.gen, s.who, y⟩) SLr told K := by
  obtain ⟨ρ, A, B, C, toa, toc, ra, rc, h⟩ := h
  rcases (by omega : k = 1 ∨ k = 2 ∨ k = 3) with rfl | rfl | rfl
  · exact writeA_alive h i s y hs hw
  · exact writeB_alive h i s y hs hw
  · exact writeC_alive h i s y hs hw
theorem AW.write_dead (h : AW w0 w xb P wp SLp SLr told K) (hk : 1 ≤ k ∧ k ≤ 3) (hs hg : Int) (y : ByteArray) (ha : aliveB SLp k hs hg = false) :
    Calls Try.prog 47 #[.pointer (some ⟨xb, 0, none⟩), .int .i64 k, .agg #[.int .i64 hs, .int .u64 hg], .string y] w fun e w' => e = .returned (.tuple #[]) ∧ AW w0 w' xb P wp SLp SLr told K := by
  obtain ⟨ρ, A, B, C, toa, toc, ra, rc, h⟩ := h
  rcases (by omega : k = 1 ∨ k = 2 ∨ k = 3) with rfl | rfl | rfl
  · exact writeA_dead h hs hg y ha
  · exact writeB_dead h hs hg y ha
  · exact writeC_dead h hs hg y ha
def HdEnd (w0 w : World) (xb : Nat) (P : PBk) (wp : RB) (SLp SLr : List Sl) (told : List (Int × Int)) (K : List (Nat × Obj)) (k : Nat) (e : Ending) (w' : World) : Prop :=
  ∃ a c, e = .returned (.tuple #[.slice a (handsR k SLp).length c, .int .i64 (handsR k SLp).length]) ∧ Row w.heap.size 40 2 hcell w' (.slice a (handsR k SLp).length c) (handsR k SLp) ∧ AW w0 w' xb P wp SLp SLr told K ∧ Below w.heap.size w w'
theorem AW.handles (h : AW w0 w xb P wp SLp SLr told K) (hk : 1 ≤ k ∧ k ≤ 3) : Calls Try.prog 30 #[.pointer (some ⟨xb, 0, none⟩), .int .i64 k] w (HdEnd w0 w xb P wp SLp SLr told K k) := by
  have h0 := h
  obtain ⟨ρ, A, B, C, toa, toc, ra, rc, h⟩ := h
  rcases (by omega : k = 1 ∨ k = 2 ∨ k = 3) with rfl | rfl | rfl
  · exact (handlesA_any h).mono fun _ _ ⟨a, c, h1, h2, h3⟩ => ⟨a, c, h1, h2, h0.below h3, h3⟩
  · exact (handlesB_any h).mono fun _ _ ⟨a, c, h1, h2, h3⟩ => ⟨a, c, h1, h2, h0.below h3, h3⟩
  · exact (handlesC_any h).mono fun _ _ ⟨a, c, h1, h2, h3⟩ => ⟨a, c, h1, h2, h0.below h3, h3⟩
/-! ### The document's pool -/
theorem AX.doc {b : Nat} {qq : Option Addr × Nat} (h : AX w0 w xb P (some (b, qq)) SLp SLr told K ρ A B C toa toc ra rc) (hR : RfQ w' b ra rc SL') (hu : Upd (Value.slice ra SLr.length rc).ownBlock.toList w w') (hl : SL'.length = SLr.length) : AX w0 w' xb P (some (b, qq)) SLp SL' told K ρ A B C toa toc ra rc := by
  obtain ⟨_, hb, hq⟩ := h.lb.rf
  have hU : RU [6] w w' ρ ρ := RU.upd h.ro hu (fun k hk _ => by simp [hq k (mem_own hk)])
  have hl2 : (SLp.length ≤ 4096 ∧ SL'.length ≤ 4096) ∧ ∀ q, (some (b, qq) : RB) = some q → q.2 = (ra, rc) := by rw [hl]; exact h.bd
  refine ⟨h.ro.step hU (by simp), h.ars.ru hU (by simp), h.sa, h.sb.imp (fun e x hc => hc.ru h.ro hU (by simp)), h.sc, ⟨h.lb.xr, hU.heap h.lb.xblk (by rw [h.lb.xr]; simp), hU.row h.lb.tr (fun q hq => by rw [h.lb.trr q hq]; simp), h.lb.trr, ⟨hR, hb, fun q hq' => hq q (by rw [← hl]; exact hq')⟩, fun x hx => ⟨(h.lb.kp x hx).1, hU.heap (h.lb.kp x hx).2 (by rw [(h.lb.kp x hx).1]; simp)⟩⟩, hl2⟩
theorem AW.rfs (h : AW w0 w xb P wp SLp SLr told K) : Rf w (wpo wp) SLr ∧ SLr.length ≤ 4096 := by
  obtain ⟨ρ, A, B, C, toa, toc, ra, rc, h⟩ := h
  exact ⟨h.lb.rf.rf, h.bd.1.2⟩
theorem AW.rAlive (h : AW w0 w xb P wp SLp SLr told K) (hs hg : Int) : Calls Try.prog 42 #[rptr (wpo wp), .int .i64 k, .agg #[.int .i64 hs, .int .u64 hg]] w fun e w' => e = .returned (.bool (aliveB SLr k hs hg)) ∧ AW w0 w' xb P wp SLp SLr told K ∧ Below w.heap.size w w' :=
  (r2Alive_any (wpo wp) SLr k hs hg w h.rfs.1).mono fun _ _ ⟨h1, h2⟩ => ⟨h1, h.below h2, h2⟩
theorem AW.rRelease_no (h : AW w0 w xb P wp SLp SLr told K) (hs hg : Int) (ha : aliveB SLr k hs hg = false) : Calls Try.prog 46 #[rptr (wpo wp), .int .i64 k, .agg #[.int .i64 hs, .int .u64 hg]] w fun e w' => e = .returned (.bool false) ∧ AW w0 w' xb P wp SLp SLr told K :=
  (r2Release_no (wpo wp) SLr k hs hg w h.rfs.1 ha).mono fun _ _ ⟨h1, h2⟩ => ⟨h1, h.below h2⟩
theorem AW.rRelease_yes (h : AW w0 w xb P wp SLp SLr told K) (i : Nat) (s : Sl) (hs : SLr[i]? = some s) (hw : s.who = k) : Calls Try.prog 46 #[rptr (wpo wp), .int .i64 k, .agg #[.int .i64 i, .int .u64 s.gen]] w fun e w' => e = .returned (.bool true) ∧ AW w0 w' xb P wp SLp (SLr.set i ⟨IntKind.u64.wrap (s.gen + 1), 0, ⟨#[]⟩⟩) told K := by
  obtain ⟨ρ, A, B, C, toa, toc, ra, rc, h⟩ := h
  cases wp with
  | none => have := h.lb.rf; change SLr = [] at this; rw [this] at hs; simp at hs
  | some bq =>
    obtain ⟨b, qq⟩ := bq
    refine (r2Release_yes b ra rc SLr k i s.gen s w h.lb.rf.1 hs hw rfl).mono ?_
    rintro e w' ⟨rfl, hR, hu⟩
    exact ⟨rfl, ρ, A, B, C, toa, toc, ra, rc, h.doc hR hu (List.length_set ..)⟩
theorem AW.rAlloc_full (h : AW w0 w xb P wp SLp SLr told K) (x : ByteArray) (hn : true ∉ freeOf SLr) : Calls Try.prog 44 #[rptr (wpo wp), .int .i64 k, .string x] w fun e w' => e = .returned (.tuple #[.agg #[.int .i64 0, .int .u64 0], .int .i64 5]) ∧ AW w0 w' xb P wp SLp SLr told K :=
  (r2Alloc_full (wpo wp) SLr k x w h.rfs.1 (by have := h.rfs.2; omega) hn).mono fun _ _ ⟨h1, h2⟩ => ⟨h1, h.below h2⟩
theorem AW.rAlloc_some (h : AW w0 w xb P wp SLp SLr told K) (x : ByteArray) (hn : true ∈ freeOf SLr) (s : Sl) (hs : SLr[(freeOf SLr).idxOf true]? = some s) : Calls Try.prog 44 #[rptr (wpo wp), .int .i64 k, .string x] w fun e w' => e = .returned (.tuple #[.agg #[.int .i64 ((freeOf SLr).idxOf true : Nat), .int .u64 s.gen], .int .i64 0]) ∧ AW w0 w' xb P wp SLp (SLr.set ((freeOf SLr).idxOf true) ⟨s.gen, k, x⟩) told K := by
  obtain ⟨ρ, A, B, C, toa, toc, ra, rc, h⟩ := h
  cases wp with
  | none => have := h.lb.rf; change SLr = [] at this; rw [this] at hs; simp at hs
  | some bq =>
    obtain ⟨b, qq⟩ := bq
    refine (r2Alloc_some b ra rc SLr k x w h.lb.rf.1 (by have := h.bd.1.2; omega) hn).mono ?_
    rintro e w' ⟨s', hs', rfl, hR, hu⟩
    rw [hs] at hs'
    injection hs' with hs'
    subst hs'
    exact ⟨rfl, ρ, A, B, C, toa, toc, ra, rc, h.doc hR hu (List.length_set ..)⟩
/-- Where the document's row stands. -/
theorem AW.rlen {b : Nat} {a : Option Addr} {c : Nat} (h : AW w0 w xb P (some (b, a, c)) SLp SLr told K) : w.cell? ⟨b, 0, none⟩ = some (.slice a SLr.length c) ∧ b < w.heap.size := by
  obtain ⟨ρ, A, B, C, toa, toc, ra, rc, h⟩ := h
  have hq := h.bd.2 _ rfl
  injection hq with h1 h2
  change a = ra at h1
  change c = rc at h2
  subst h1 h2
  have hR : RfQ w b a c SLr := h.lb.rf.1
  exact ⟨by rw [cell_of_heap hR.blk]; rfl, heap_lt hR.blk⟩
theorem AW.rFree (h : AW w0 w xb P wp SLp SLr told K) : Calls Try.prog 29 #[rptr (wpo wp)] w fun e w' => e = .returned (.int .i64 ((freeOf SLr).count true : Nat)) ∧ w = w' := r2Free_any (wpo wp) SLr w h.rfs.1 (by have := h.rfs.2; omega)
theorem AW.rHandles (h : AW w0 w xb P wp SLp SLr told K) : Calls Try.prog 31 #[rptr (wpo wp), .int .i64 k] w fun e w' => ∃ a c, e = .returned (.slice a (handsR k SLr).length c) ∧ Row w.heap.size 40 2 hcell w' (.slice a (handsR k SLr).length c) (handsR k SLr) ∧ AW w0 w' xb P wp SLp SLr told K ∧ Below w.heap.size w w' :=
  (r2Handles_any (wpo wp) SLr k w h.rfs.1 (by have := h.rfs.2; omega)).mono fun _ _ ⟨a, c, h1, h2, h3⟩ => ⟨a, c, h1, h2, h.below h3, h3⟩
/-- A text is written into the document's slot. -/
theorem AW.rText (h : AW w0 w xb P wp SLp SLr told K) {i : Nat} {s : Sl} (hs : SLr[i]? = some s) (y : ByteArray) : ∃ b q c, wpo wp = some b ∧ w.cell? ⟨b, 0, none⟩ = some (.slice (some ⟨q, 0, none⟩) SLr.length c) ∧ b < w.heap.size ∧ q < w.heap.size ∧ w.cell? ⟨q, i * 3 + 2, none⟩ = some (.string s.x) ∧ w.frozen? ⟨q, i * 3 + 2, none⟩ = false ∧
    AW w0 (w.setCell ⟨q, i * 3 + 2, none⟩ (.string y)) xb P wp SLp (SLr.set i ⟨s.gen, s.who, y⟩) told K := by
  obtain ⟨ρ, A, B, C, toa, toc, ra, rc, h⟩ := h
  cases wp with
  | none => have := h.lb.rf; change SLr = [] at this; rw [this] at hs; simp at hs
  | some bq =>
    obtain ⟨b, qq⟩ := bq
    obtain ⟨hR, hb, hq⟩ := h.lb.rf
    obtain ⟨q, rfl, hf, hql, hR2, hu⟩ := hR.set (y := ⟨s.gen, s.who, y⟩) (j := 2) (u := .string y) hs (by decide) rfl
    obtain ⟨q', c', d0, _, _, _, _, _, g2⟩ := hR.rf.at hs
    have d1 := d0
    rw [cell_of_heap hR.blk] at d1
    injection d1 with d1
    injection d1 with d1 _ d2
    injection d1 with d1
    injection d1 with d1
    subst d1 d2
    exact ⟨b, q, _, rfl, d0, heap_lt hR.blk, hql, g2, hf, ρ, A, B, C, toa, toc, _, _, h.doc hR2 (by simpa [Value.ownBlock] using hu) (List.length_set ..)⟩
/-- A handle more is told. -/
theorem AX.tell (h : AX w0 w xb P wp SLp SLr told K ρ A B C toa toc ra rc) {a' : Option Addr} {c' : Nat} {told' : List (Int × Int)} (hu : Upd (Value.slice toa told.length toc).ownBlock.toList w w') (hr : Row 0 40 2 hcell w' (.slice a' told'.length c') told') (hn : ∀ q, (Value.slice a' told'.length c').ownBlock = some q → (Value.slice toa told.length toc).ownBlock = some q ∨ w.heap.size ≤ q) :
    ∃ ρ', AX w0 (w'.setCell ⟨xb, 5, none⟩ (.slice a' told'.length c')) xb P wp SLp SLr told' K ρ' A B C a' c' ra rc := by
  have hs : Upd [xb] w' (w'.setCell ⟨xb, 5, none⟩ (.slice a' told'.length c')) := (Upd.refl _ _).setCell (p := ⟨xb, 5, none⟩) (by simp) _
  have hxl := heap_lt h.lb.xblk
  have hx5 : xb ∉ (Value.slice toa told.length toc).ownBlock.toList := fun hh => by have := h.lb.trr _ (mem_own hh); rw [h.lb.xr] at this; cases this
  have hU0 : RU [4, 5] w (w'.setCell ⟨xb, 5, none⟩ (.slice a' told'.length c')) ρ ρ := (RU.upd (S := xb :: (Value.slice toa told.length toc).ownBlock.toList) h.ro ((hu.mono (by simp +contextual)).trans (hs.mono (by simp))) (fun k hk _ => by
    rcases List.mem_cons.1 hk with rfl | hk
    · simp [h.lb.xr]
    · simp [h.lb.trr k (mem_own hk)]))
  have hne : ∀ q, (Value.slice a' told'.length c').ownBlock = some q → q ≠ xb := fun q hq hh => by
    rcases hn q hq with h1 | h1
    · exact hx5 (by rw [h1, hh]; simp)
    · omega
  have hblk : (w'.setCell ⟨xb, 5, none⟩ (.slice a' told'.length c')).heap[xb]? = some (.cells #[.pointer (paddr P), .pointer (some ⟨A.a, 0, none⟩), .pointer (some ⟨C.a, 0, none⟩), .pointer (some ⟨B.a, 0, none⟩), rptr (wpo wp), .slice a' told'.length c'] 73) := by
    rw [heap_set_same (hu.heap h.lb.xblk hx5)]; rfl
  have hr2 : Row 0 40 2 hcell (w'.setCell ⟨xb, 5, none⟩ (.slice a' told'.length c')) (.slice a' told'.length c') told' := hr.upd hs (fun q hq hh => by simp at hh; exact hne q hq hh)
  have fin : ∀ ρ', RU [4, 5] w (w'.setCell ⟨xb, 5, none⟩ (.slice a' told'.length c')) ρ ρ' → (∀ q, (Value.slice a' told'.length c').ownBlock = some q → ρ' q = 5) → AX w0 (w'.setCell ⟨xb, 5, none⟩ (.slice a' told'.length c')) xb P wp SLp SLr told' K ρ' A B C a' c' ra rc := fun ρ' hU hq => by
    have hro : ∀ k, ρ k ≠ 0 → ρ' k = ρ k := fun k hk => hU.role k (h.ro.lt hk)
    exact ⟨h.ro.step hU (by simp), h.ars.ru hU (by simp), h.sa, h.sb.imp (fun e x hc => hc.ru h.ro hU (by simp)), h.sc, ⟨by rw [hro _ (by rw [h.lb.xr]; decide)]; exact h.lb.xr, hblk, hr2, hq, h.lb.rf.ru h.ro hU (by simp), fun x hx => ⟨by rw [hro _ (by rw [(h.lb.kp x hx).1]; decide)]; exact (h.lb.kp x hx).1, hU.heap (h.lb.kp x hx).2 (by rw [(h.lb.kp x hx).1]; simp)⟩⟩, h.bd⟩
  cases hq : (Value.slice a' told'.length c').ownBlock with
  | none => exact ⟨ρ, fin ρ hU0 (by rw [hq]; simp)⟩
  | some q =>
    rcases hn q hq with h1 | h1
    · exact ⟨ρ, fin ρ hU0 (fun q' hq' => by rw [hq] at hq'; injection hq' with hq'; subst hq'; exact h.lb.trr q h1)⟩
    · have hql : q < (w'.setCell ⟨xb, 5, none⟩ (.slice a' told'.length c')).heap.size := (hr2.lt q hq).2
      exact ⟨mark ρ q 5, fin _ (hU0.mark h1 hql) (fun q' hq' => by rw [hq] at hq'; injection hq' with hq'; subst hq'; exact mark_self)⟩
end
end Go.Proofs.Ytoknkedmpdcinaa
