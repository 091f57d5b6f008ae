/- The law ArenaPlays: its functions release, alloc and handles where they do something. -/
import Derived.Test.YtoknkedmpdcinaaPlaysS
namespace Go.Proofs.Ytoknkedmpdcinaa
open Go.RowKit
section
variable {w0 w w' : World} {xb : Nat} {P : PBk} {p g f : Nat} {wp : RB} {SLp SLr SL' : List Sl} {told : List (Int × Int)} {K : List (Nat × Obj)} {ρ ρ' : Nat → Nat} {A B C : AR} {aa ca ba : Nat} {toa : Option Addr} {toc : Nat} {ra : Option Addr} {rc : Nat} {rs : List Nat}
theorem AX.aw (h : AX w0 w xb P wp SLp SLr told K ρ A B C toa toc ra rc) : AW w0 w xb P wp SLp SLr told K := ⟨ρ, A, B, C, toa, toc, ra, rc, h⟩
/-- A new block of the call's own. -/
theorem AX.alloc9 (h : AX w0 w xb P wp SLp SLr told K ρ A B C toa toc ra rc) (o : Obj) : AX w0 (w.alloc o) xb P wp SLp SLr told K (mark ρ w.heap.size 9) A B C toa toc ra rc := by
  have hu : RU [] w (w.alloc o) ρ (mark ρ w.heap.size 9) := (RU.below h.ro ((Below.refl _ _).alloc (Nat.le_refl _) o)).mark (Nat.le_refl _) (by simp)
  exact ⟨h.ro.step hu (by simp), h.ars.ru hu (by simp), h.sa, h.sb.imp (fun e x hc => hc.ru h.ro hu (by simp)), h.sc, h.lb.ru h.ro hu (by simp) (by simp) (by simp) (by simp), h.bd⟩
theorem AX.set9 (h : AX w0 w xb P wp SLp SLr told K ρ A B C toa toc ra rc) {b : Nat} (hb : ρ b = 9) (i : Nat) (u : Value) : AX w0 (w.setCell ⟨b, i, none⟩ u) xb P wp SLp SLr told K ρ A B C toa toc ra rc := by
  have hu : RU [9] w (w.setCell ⟨b, i, none⟩ u) ρ ρ := RU.upd h.ro ((Upd.refl [b] _).setCell (p := ⟨b, i, none⟩) (by simp) u) (fun k hk _ => by simp at hk; subst hk; simp [hb])
  exact ⟨h.ro.step hu (by simp), h.ars.ru hu (by simp), h.sa, h.sb.imp (fun e x hc => hc.ru h.ro hu (by simp)), h.sc, h.lb.ru h.ro hu (by simp) (by simp) (by simp) (by simp), h.bd⟩
theorem PoolIs.lts {w : World} {p g f : Nat} {gens : List Int} {free : List Bool} (h : PoolIs w p g f gens free) : p < w.heap.size ∧ g < w.heap.size ∧ f < w.heap.size := ⟨heap_lt h.2.2.2.2.2.1, heap_lt h.2.2.2.2.2.2.1, heap_lt h.2.2.2.2.2.2.2⟩

set_option maxRecDepth 100000 in
set_option maxHeartbeats 1000000 in
theorem releaseA_alive (h : AX w0 w xb P wp SLp SLr told K ρ A B C toa toc ra rc) (i : Nat) (s : Sl) (hs : SLp[i]? = some s) (hk : s.who = 1) :
    Calls Try.prog 45 #[.pointer (some ⟨xb, 0, none⟩), .int .i64 1, .agg #[.int .i64 i, .int .u64 s.gen]] w fun e w' => e = .returned (.bool true) ∧ AW w0 w' xb P wp (SLp.set i ⟨IntKind.u64.wrap (s.gen + 1), 0, ⟨#[]⟩⟩) SLr told K := by
  obtain ⟨p, g, f, rfl⟩ := h.pool (fun hh => by rw [hh] at hs; simp at hs)
  obtain ⟨w1, hw1⟩ : ∃ w1, w1 = w.alloc (.cells #[.int .i64 i, .int .u64 s.gen] 40) := ⟨_, rfl⟩
  have hB0 : Below w.heap.size w w1 := by rw [hw1]; exact (Below.refl _ _).alloc (Nat.le_refl _) _
  have hx0 : w1.heap[w.heap.size]? = some (.cells #[.int .i64 i, .int .u64 s.gen] 40) := by rw [hw1]; exact heap_alloc_new _ _
  have hB : Below w.heap.size w w1.drew := hB0.drew
  have h0 := h.below hB0
  have h1 := h.below hB
  have c1 := h0.xc.c1
  have xl := h0.xc.lt
  have y0 : w1.cell? ⟨w.heap.size, 0, none⟩ = some (.int .i64 i) := by rw [cell_of_heap hx0]; rfl
  have y1 : w1.cell? ⟨w.heap.size, 1, none⟩ = some (.int .u64 s.gen) := by rw [cell_of_heap hx0]; rfl
  have yl := heap_lt hx0
  obtain ⟨e, s', he, h2, h3, h4, _, _, hct⟩ := h1.sa.alive (aliveB_of hs hk)
  have h2' : e.slot = i := by omega
  have h4' := h4
  rw [h2', hs] at h4
  injection h4 with h4
  subst h4
  obtain ⟨n1, n2, n3, n4, n5, n6⟩ := h1.ars.neq (i := 0) (d := arS A) rfl
  have hcl := AStr.gRelease_some A p g f [p, g, f, A.m] _ _ i s.gen e _ (h1.ars.gR (i := 0) (d := arS A) rfl) h1.ars.pool.1 he h2 h3 ((h1.ars.ar 0 _ rfl).th e he).2 n1 n2 n3 n4 n5 n6 (by simp)
  have hnot : w.heap.size ∉ [p, g, f, A.m] := by
    obtain ⟨l1, l2, l3⟩ := (h.ars.pool.1).lts
    have l4 := (h.ars.ar 0 (arS A) rfl).lts.2.1
    simp only [List.mem_cons, List.not_mem_nil, or_false, not_or]
    exact ⟨by omega, by omega, by omega, by show w.heap.size ≠ A.m; exact Nat.ne_of_gt l4⟩
  have hfin : ∀ w2, Upd [p, g, f, A.m] w1.drew w2 → _ → _ → AX w0 w2 xb (some (p, g, f)) wp _ SLr told K ρ _ _ _ toa toc ra rc := fun w2 hu hp hA => h1.relA he h4' hk hu hp hA
  rw [h2'] at hfin hcl
  replace hfin := Lib.hid hfin
  replace hcl := Lib.hid hcl
  replace hw1 := Lib.hid hw1
  replace hnot := Lib.hid hnot
  clear h h0 h1 hx0 hB0 hB hct he h2 h3 h4' h2' hs hk n1 n2 n3 n4 n5 n6
  go_enter Try.func45, Try.ntmps45
  go_wp2_with fail
  rw [← hw1.out]
  go_region_held3 (fun w' => w'.cell? ⟨xb, 1, none⟩ = some (.pointer (some ⟨A.a, 0, none⟩)) ∧ w'.cell? ⟨w.heap.size, 0, none⟩ = some (.int .i64 i) ∧ w'.cell? ⟨w.heap.size, 1, none⟩ = some (.int .u64 s.gen)) (first | exact ⟨i0, i1, i2⟩ | go_keep) (first
    | (go_at_call 14; refine hcl.out.mono ?_; rintro z w2 ⟨rfl, hu2, hp2, ha2⟩; have hx2 := hfin.out w2 hu2 hp2 ha2; have i0 := hx2.xc.c1; have i1 := hu2.cell (w := w1.drew) y0 hnot.out; have i2 := hu2.cell (w := w1.drew) y1 hnot.out; replace hx2 := Lib.hid hx2.aw; clear hu2 hp2 ha2))
  all_goals
    go_wp2_with fail
    go_ret
    exact ⟨rfl, hx2.out⟩

theorem AX.fullA (h : AX w0 w xb P wp SLp SLr told K ρ A B C toa toc ra rc) (x : ByteArray) (hn : true ∉ freeOf SLp) :
    Calls Try.prog 13 #[.pointer (some ⟨A.a, 0, none⟩), .string x] w fun e w' => e = .returned (.tuple #[.agg #[.int .i64 0, .int .u64 0], .int .i64 5]) ∧ Below w.heap.size w w' := by
  cases P with
  | none => exact AStr.aAlloc_nopool A.a A.m _ A.c x w (AStr.AG.is (R := []) (A := A) (h.ars.ar 0 (arS A) rfl).g)
  | some q => exact AStr.gAlloc_full A q.1 q.2.1 q.2.2 [] _ _ x w (h.ars.ar 0 (arS A) rfl).g h.ars.pool.1 hn

set_option maxRecDepth 100000 in
set_option maxHeartbeats 1000000 in
theorem allocA_full (h : AX w0 w xb P wp SLp SLr told K ρ A B C toa toc ra rc) (x : ByteArray) (hn : true ∉ freeOf SLp) :
    Calls Try.prog 43 #[.pointer (some ⟨xb, 0, none⟩), .int .i64 1, .string x] w fun e w' => e = .returned (.tuple #[.agg #[.int .i64 0, .int .u64 0], .int .i64 5]) ∧ Below w.heap.size w w' := by
  obtain ⟨w1, hw1⟩ : ∃ w1, w1 = w.alloc (.cells #[.int .i64 0, .int .u64 0] 40) := ⟨_, rfl⟩
  have hB0 : Below w.heap.size w w1 := by rw [hw1]; exact (Below.refl _ _).alloc (Nat.le_refl _) _
  have hx0 : w1.heap[w.heap.size]? = some (.cells #[.int .i64 0, .int .u64 0] 40) := by rw [hw1]; exact heap_alloc_new _ _
  have h0 := h.below hB0
  have c1 := h.xc.c1
  have xl := h.xc.lt
  obtain ⟨w2, hw2⟩ : ∃ w2, w2 = w1 := ⟨_, rfl⟩
  subst hw2
  have hx1 := hx0
  have hcl := h0.fullA x hn
  have hB := hB0
  replace hcl := Lib.hid hcl
  replace hx1 := Lib.hid hx1
  replace hw1 := Lib.hid hw1

  replace hB := Lib.hid hB
  clear h h0 hx0 hB0 hn 
  go_enter Try.func43, Try.ntmps43
  go_wp2_with fail
  rw [← hw1.out]
  refine hcl.out.mono ?_
  clear hcl
  rintro z w3 ⟨rfl, hb3⟩
  have hx3 := Below.heap' hb3 hx1.out
  have r0 : w3.cell? ⟨w.heap.size, 0, none⟩ = some (.int .i64 0) := by rw [cell_of_heap hx3]; rfl
  have r1 : w3.cell? ⟨w.heap.size, 1, none⟩ = some (.int .u64 0) := by rw [cell_of_heap hx3]; rfl
  have f0 : w3.frozen? ⟨w.heap.size, 0, none⟩ = false := frozen_of_heap hx3 _
  have f1 : w3.frozen? ⟨w.heap.size, 1, none⟩ = false := frozen_of_heap hx3 _
  have rl := heap_lt hx3
  have hB3 := Lib.hid (hB.out.trans (hb3.mono hB.out.size))
  clear hb3 hx3
  go_wp2_with fail
  exact bodyPost_ret (v := .tuple #[.agg #[.int .i64 0, .int .u64 0], .int .i64 5]) (by simp [results, Try.results43, go_sem, r0, r1]) rfl ⟨rfl, (hB3.out.setCell (p := ⟨w.heap.size, 0, none⟩) (Nat.le_refl _) _).setCell (p := ⟨w.heap.size, 1, none⟩) (Nat.le_refl _) _⟩

set_option maxRecDepth 100000 in
set_option maxHeartbeats 1000000 in
theorem allocA_some (h : AX w0 w xb P wp SLp SLr told K ρ A B C toa toc ra rc) (x : ByteArray) (hn : true ∈ freeOf SLp) (s : Sl) (hs : SLp[(freeOf SLp).idxOf true]? = some s) (hz : s.who = 0) :
    Calls Try.prog 43 #[.pointer (some ⟨xb, 0, none⟩), .int .i64 1, .string x] w fun e w' => e = .returned (.tuple #[.agg #[.int .i64 ((freeOf SLp).idxOf true : Nat), .int .u64 s.gen], .int .i64 0]) ∧ AW w0 w' xb P wp (SLp.set ((freeOf SLp).idxOf true) ⟨s.gen, 1, x⟩) SLr told K := by
  obtain ⟨p, g, f, rfl⟩ := h.pool (fun hh => by rw [hh] at hs; simp at hs)
  obtain ⟨w1, hw1⟩ : ∃ w1, w1 = w.alloc (.cells #[.int .i64 0, .int .u64 0] 40) := ⟨_, rfl⟩
  have hB0 : Below w.heap.size w w1 := by rw [hw1]; exact (Below.refl _ _).alloc (Nat.le_refl _) _
  have hx0 : w1.heap[w.heap.size]? = some (.cells #[.int .i64 0, .int .u64 0] 40) := by rw [hw1]; exact heap_alloc_new _ _
  have h0 : AX w0 w1 xb (some (p, g, f)) wp SLp SLr told K (mark ρ w.heap.size 9) A B C toa toc ra rc := by rw [hw1]; exact h.alloc9 _
  have hz1 : w1.heap.size = w.heap.size + 1 := by rw [hw1]; simp
  have c1 := h.xc.c1
  have xl := h.xc.lt
  obtain ⟨w2, hw2⟩ : ∃ w2, w2 = w1 := ⟨_, rfl⟩
  subst hw2
  have hx1 := hx0
  have h1 := h0
  obtain ⟨n1, n2, n3, n4, n5, n6⟩ := h1.ars.neq (i := 0) (d := arS A) rfl
  have hRl : ∀ r, r ∈ [p, g, f, A.m] → r < w2.heap.size := fun r hr => h1.ro.lt (fun hh => by
    have := h1.ars.pR (i := 0) (d := arS A) rfl r hr
    rw [hh] at this
    simp at this)

  have hnew : ∀ e, e ∈ A.L → e.slot ≠ (freeOf SLp).idxOf true := fun e he => idx_ne' ((h1.ars.ar 0 (arS A) rfl).th e he).2 hn
  have hcl := AStr.gAlloc_some A p g f [p, g, f, A.m] _ _ x w2 (h1.ars.gR (i := 0) (d := arS A) rfl) h1.ars.pool.1 hn n1 n2 n4 n5 n6 (by simp) hRl hnew
  have hnot : w.heap.size ∉ [p, f, A.m] := by
    obtain ⟨l1, l2, l3⟩ := (h.ars.pool.1).lts
    have l4 := (h.ars.ar 0 (arS A) rfl).lts.2.1
    simp only [List.mem_cons, List.not_mem_nil, or_false, not_or]
    exact ⟨by omega, by omega, by show w.heap.size ≠ A.m; exact Nat.ne_of_gt l4⟩
  have hfin : ∀ w3 b, Upd [p, f, A.m] w2 w3 → _ → w2.heap.size ≤ b → _ → AX w0 w3 xb (some (p, g, f)) wp _ SLr told _ (mark _ b 10) _ _ _ toa toc ra rc := fun w3 b hu hp hb hA => h1.putA (y := x) hn hs hz hu hp hb hA
  rw [gens_at hs] at hcl hfin
  replace hfin := Lib.hid hfin
  replace hcl := Lib.hid hcl
  replace hx1 := Lib.hid hx1
  replace hw1 := Lib.hid hw1
  replace hnot := Lib.hid hnot
  replace hz1 := Lib.hid hz1

  clear h h0 h1 hx0 hB0 hn hs hz n1 n2 n3 n4 n5 n6 hRl hnew 
  generalize (freeOf SLp).idxOf true = ix at *
  go_enter Try.func43, Try.ntmps43
  go_wp2_with fail
  rw [← hw1.out]
  refine hcl.out.mono ?_
  clear hcl
  rintro z w3 ⟨rfl, hu3, hp3, b3, hb3, ha3⟩
  have hx3 := hu3.heap hx1.out hnot.out
  have h3 := hfin.out w3 b3 hu3 hp3 hb3 ha3
  have r0 : w3.cell? ⟨w.heap.size, 0, none⟩ = some (.int .i64 0) := by rw [cell_of_heap hx3]; rfl
  have r1 : w3.cell? ⟨w.heap.size, 1, none⟩ = some (.int .u64 0) := by rw [cell_of_heap hx3]; rfl
  have f0 : w3.frozen? ⟨w.heap.size, 0, none⟩ = false := frozen_of_heap hx3 _
  have f1 : w3.frozen? ⟨w.heap.size, 1, none⟩ = false := frozen_of_heap hx3 _
  have rl := heap_lt hx3
  have hz1' := hz1.out
  have hr8 : mark (mark ρ w.heap.size 9) b3 10 w.heap.size = 9 := by
    rw [mark_other (by omega)]
    exact mark_self
  have hfz : ∀ u v, AW w0 ((w3.setCell ⟨w.heap.size, 0, none⟩ u).setCell ⟨w.heap.size, 1, none⟩ v) xb (some (p, g, f)) wp (SLp.set ix ⟨s.gen, 1, x⟩) SLr told K := fun u v => ((h3.set9 hr8 0 u).set9 hr8 1 v).aw
  replace hfz := Lib.hid hfz
  clear hr8 hz1'
  clear hu3 hp3 hb3 ha3 hx3 h3
  go_wp2_with fail
  exact bodyPost_ret (v := .tuple #[.agg #[.int .i64 ix, .int .u64 s.gen], .int .i64 0]) (by simp [results, Try.results43, go_sem, r0, r1]) rfl ⟨rfl, hfz.out _ _⟩

set_option maxRecDepth 100000 in
set_option maxHeartbeats 1000000 in
theorem releaseB_alive (h : AX w0 w xb P wp SLp SLr told K ρ A B C toa toc ra rc) (i : Nat) (s : Sl) (hs : SLp[i]? = some s) (hk : s.who = 2) :
    Calls Try.prog 45 #[.pointer (some ⟨xb, 0, none⟩), .int .i64 2, .agg #[.int .i64 i, .int .u64 s.gen]] w fun e w' => e = .returned (.bool true) ∧ AW w0 w' xb P wp (SLp.set i ⟨IntKind.u64.wrap (s.gen + 1), 0, ⟨#[]⟩⟩) SLr told K := by
  obtain ⟨p, g, f, rfl⟩ := h.pool (fun hh => by rw [hh] at hs; simp at hs)
  obtain ⟨w1, hw1⟩ : ∃ w1, w1 = w.alloc (.cells #[.int .i64 i, .int .u64 s.gen] 40) := ⟨_, rfl⟩
  have hB0 : Below w.heap.size w w1 := by rw [hw1]; exact (Below.refl _ _).alloc (Nat.le_refl _) _
  have hx0 : w1.heap[w.heap.size]? = some (.cells #[.int .i64 i, .int .u64 s.gen] 40) := by rw [hw1]; exact heap_alloc_new _ _
  have hB : Below w.heap.size w w1.drew := hB0.drew
  have h0 := h.below hB0
  have h1 := h.below hB
  have c3 := h0.xc.c3
  have xl := h0.xc.lt
  have y0 : w1.cell? ⟨w.heap.size, 0, none⟩ = some (.int .i64 i) := by rw [cell_of_heap hx0]; rfl
  have y1 : w1.cell? ⟨w.heap.size, 1, none⟩ = some (.int .u64 s.gen) := by rw [cell_of_heap hx0]; rfl
  have yl := heap_lt hx0
  obtain ⟨e, s', he, h2, h3, h4, _, _, hct⟩ := h1.sb.alive (aliveB_of hs hk)
  have h2' : e.slot = i := by omega
  have h4' := h4
  rw [h2', hs] at h4
  injection h4 with h4
  subst h4
  obtain ⟨n1, n2, n3, n4, n5, n6⟩ := h1.ars.neq (i := 1) (d := arT B) rfl
  have hcl := AThing.gRelease_some B p g f [p, g, f, B.m] _ _ i s.gen e _ (h1.ars.gR (i := 1) (d := arT B) rfl) h1.ars.pool.1 he h2 h3 ((h1.ars.ar 1 _ rfl).th e he).2 n1 n2 n3 n4 n5 n6 (by simp)
  have hnot : w.heap.size ∉ [p, g, f, B.m] := by
    obtain ⟨l1, l2, l3⟩ := (h.ars.pool.1).lts
    have l4 := (h.ars.ar 1 (arT B) rfl).lts.2.1
    simp only [List.mem_cons, List.not_mem_nil, or_false, not_or]
    exact ⟨by omega, by omega, by omega, by show w.heap.size ≠ B.m; exact Nat.ne_of_gt l4⟩
  have hfin : ∀ w2, Upd [p, g, f, B.m] w1.drew w2 → _ → _ → AX w0 w2 xb (some (p, g, f)) wp _ SLr told K ρ _ _ _ toa toc ra rc := fun w2 hu hp hA => h1.relB he h4' hk hu hp hA
  rw [h2'] at hfin hcl
  replace hfin := Lib.hid hfin
  replace hcl := Lib.hid hcl
  replace hw1 := Lib.hid hw1
  replace hnot := Lib.hid hnot
  clear h h0 h1 hx0 hB0 hB hct he h2 h3 h4' h2' hs hk n1 n2 n3 n4 n5 n6
  go_enter Try.func45, Try.ntmps45
  go_wp2_with fail
  rw [← hw1.out]
  go_region_held3 (fun w' => w'.cell? ⟨xb, 3, none⟩ = some (.pointer (some ⟨B.a, 0, none⟩)) ∧ w'.cell? ⟨w.heap.size, 0, none⟩ = some (.int .i64 i) ∧ w'.cell? ⟨w.heap.size, 1, none⟩ = some (.int .u64 s.gen)) (first | exact ⟨i0, i1, i2⟩ | go_keep) (first
    | (go_at_call 57; refine hcl.out.mono ?_; rintro z w2 ⟨rfl, hu2, hp2, ha2⟩; have hx2 := hfin.out w2 hu2 hp2 ha2; have i0 := hx2.xc.c3; have i1 := hu2.cell (w := w1.drew) y0 hnot.out; have i2 := hu2.cell (w := w1.drew) y1 hnot.out; replace hx2 := Lib.hid hx2.aw; clear hu2 hp2 ha2))
  all_goals
    go_wp2_with fail
    go_ret
    exact ⟨rfl, hx2.out⟩

theorem AX.fullB (h : AX w0 w xb P wp SLp SLr told K ρ A B C toa toc ra rc) (lb : Nat) (hn : true ∉ freeOf SLp) :
    Calls Try.prog 56 #[.pointer (some ⟨B.a, 0, none⟩), .agg #[.slice (some ⟨lb, 0, none⟩) 1 1]] w fun e w' => e = .returned (.tuple #[.agg #[.int .i64 0, .int .u64 0], .int .i64 5]) ∧ Below w.heap.size w w' := by
  cases P with
  | none => exact AThing.aAlloc_nopool B.a B.m _ B.c (some ⟨lb, 0, none⟩) 1 1 w (AThing.AG.is (R := []) (A := B) (h.ars.ar 1 (arT B) rfl).g)
  | some q => exact AThing.gAlloc_full B q.1 q.2.1 q.2.2 [] _ _ (some ⟨lb, 0, none⟩) 1 1 w (h.ars.ar 1 (arT B) rfl).g h.ars.pool.1 hn

set_option maxRecDepth 100000 in
set_option maxHeartbeats 1000000 in
theorem allocB_full (h : AX w0 w xb P wp SLp SLr told K ρ A B C toa toc ra rc) (x : ByteArray) (hn : true ∉ freeOf SLp) :
    Calls Try.prog 43 #[.pointer (some ⟨xb, 0, none⟩), .int .i64 2, .string x] w fun e w' => e = .returned (.tuple #[.agg #[.int .i64 0, .int .u64 0], .int .i64 5]) ∧ Below w.heap.size w w' := by
  obtain ⟨w1, hw1⟩ : ∃ w1, w1 = w.alloc (.cells #[.int .i64 0, .int .u64 0] 40) := ⟨_, rfl⟩
  have hB0 : Below w.heap.size w w1 := by rw [hw1]; exact (Below.refl _ _).alloc (Nat.le_refl _) _
  have hx0 : w1.heap[w.heap.size]? = some (.cells #[.int .i64 0, .int .u64 0] 40) := by rw [hw1]; exact heap_alloc_new _ _
  have h0 := h.below hB0
  have c3 := h.xc.c3
  have xl := h.xc.lt
  obtain ⟨w2, hw2⟩ : ∃ w2, w2 = w1.alloc (.cells #[.string x] 9) := ⟨_, rfl⟩
  have hB1 : Below w1.heap.size w1 w2 := by rw [hw2]; exact (Below.refl _ _).alloc (Nat.le_refl _) _
  have hx1 := Below.heap' hB1 hx0
  have hcl := (h0.below hB1).fullB w1.heap.size hn
  have hB := hB0.trans (hB1.mono hB0.size)
  replace hcl := Lib.hid hcl
  replace hx1 := Lib.hid hx1
  replace hw1 := Lib.hid hw1
  replace hw2 := Lib.hid hw2
  replace hB := Lib.hid hB
  clear h h0 hx0 hB0 hn hB1
  go_enter Try.func43, Try.ntmps43
  go_wp2_with fail
  have e1 : w.heap.size + 1 = w1.heap.size := by rw [hw1.out]; simp
  rw [← hw1.out, ← hw2.out, e1]
  clear e1
  refine hcl.out.mono ?_
  clear hcl
  rintro z w3 ⟨rfl, hb3⟩
  have hx3 := Below.heap' hb3 hx1.out
  have r0 : w3.cell? ⟨w.heap.size, 0, none⟩ = some (.int .i64 0) := by rw [cell_of_heap hx3]; rfl
  have r1 : w3.cell? ⟨w.heap.size, 1, none⟩ = some (.int .u64 0) := by rw [cell_of_heap hx3]; rfl
  have f0 : w3.frozen? ⟨w.heap.size, 0, none⟩ = false := frozen_of_heap hx3 _
  have f1 : w3.frozen? ⟨w.heap.size, 1, none⟩ = false := frozen_of_heap hx3 _
  have rl := heap_lt hx3
  have hB3 := Lib.hid (hB.out.trans (hb3.mono hB.out.size))
  clear hb3 hx3
  go_wp2_with fail
  exact bodyPost_ret (v := .tuple #[.agg #[.int .i64 0, .int .u64 0], .int .i64 5]) (by simp [results, Try.results43, go_sem, r0, r1]) rfl ⟨rfl, (hB3.out.setCell (p := ⟨w.heap.size, 0, none⟩) (Nat.le_refl _) _).setCell (p := ⟨w.heap.size, 1, none⟩) (Nat.le_refl _) _⟩

set_option maxRecDepth 100000 in
set_option maxHeartbeats 1000000 in
theorem allocB_some (h : AX w0 w xb P wp SLp SLr told K ρ A B C toa toc ra rc) (x : ByteArray) (hn : true ∈ freeOf SLp) (s : Sl) (hs : SLp[(freeOf SLp).idxOf true]? = some s) (hz : s.who = 0) :
    Calls Try.prog 43 #[.pointer (some ⟨xb, 0, none⟩), .int .i64 2, .string x] w fun e w' => e = .returned (.tuple #[.agg #[.int .i64 ((freeOf SLp).idxOf true : Nat), .int .u64 s.gen], .int .i64 0]) ∧ AW w0 w' xb P wp (SLp.set ((freeOf SLp).idxOf true) ⟨s.gen, 2, x⟩) SLr told K := by
  obtain ⟨p, g, f, rfl⟩ := h.pool (fun hh => by rw [hh] at hs; simp at hs)
  obtain ⟨w1, hw1⟩ : ∃ w1, w1 = w.alloc (.cells #[.int .i64 0, .int .u64 0] 40) := ⟨_, rfl⟩
  have hB0 : Below w.heap.size w w1 := by rw [hw1]; exact (Below.refl _ _).alloc (Nat.le_refl _) _
  have hx0 : w1.heap[w.heap.size]? = some (.cells #[.int .i64 0, .int .u64 0] 40) := by rw [hw1]; exact heap_alloc_new _ _
  have h0 : AX w0 w1 xb (some (p, g, f)) wp SLp SLr told K (mark ρ w.heap.size 9) A B C toa toc ra rc := by rw [hw1]; exact h.alloc9 _
  have hz1 : w1.heap.size = w.heap.size + 1 := by rw [hw1]; simp
  have c3 := h.xc.c3
  have xl := h.xc.lt
  obtain ⟨w2, hw2⟩ : ∃ w2, w2 = w1.alloc (.cells #[.string x] 9) := ⟨_, rfl⟩
  have hB1 : Below w1.heap.size w1 w2 := by rw [hw2]; exact (Below.refl _ _).alloc (Nat.le_refl _) _
  have hx1 := Below.heap' hB1 hx0
  have h1 : AX w0 w2 xb (some (p, g, f)) wp SLp SLr told K (mark (mark ρ w.heap.size 9) w1.heap.size 7) A B C toa toc ra rc := by rw [hw2]; exact h0.alloc7 _
  have hl1 : mark (mark ρ w.heap.size 9) w1.heap.size 7 w1.heap.size = 7 := mark_self
  have hl2 : w2.heap[w1.heap.size]? = some (.cells #[.string x] 9) := by rw [hw2]; exact heap_alloc_new _ _
  obtain ⟨n1, n2, n3, n4, n5, n6⟩ := h1.ars.neq (i := 1) (d := arT B) rfl
  have hRl : ∀ r, r ∈ [p, g, f, B.m] → r < w2.heap.size := fun r hr => h1.ro.lt (fun hh => by
    have := h1.ars.pR (i := 1) (d := arT B) rfl r hr
    rw [hh] at this
    simp at this)
  have hz2 : w1.heap.size ≤ w2.heap.size := hB1.size
  have hnew : ∀ e, e ∈ B.L → e.slot ≠ (freeOf SLp).idxOf true := fun e he => idx_ne' ((h1.ars.ar 1 (arT B) rfl).th e he).2 hn
  have hcl := AThing.gAlloc_some B p g f [p, g, f, B.m] _ _ (some ⟨w1.heap.size, 0, none⟩) 1 1 w2 (h1.ars.gR (i := 1) (d := arT B) rfl) h1.ars.pool.1 hn n1 n2 n4 n5 n6 (by simp) hRl hnew
  have hnot : w.heap.size ∉ [p, f, B.m] := by
    obtain ⟨l1, l2, l3⟩ := (h.ars.pool.1).lts
    have l4 := (h.ars.ar 1 (arT B) rfl).lts.2.1
    simp only [List.mem_cons, List.not_mem_nil, or_false, not_or]
    exact ⟨by omega, by omega, by show w.heap.size ≠ B.m; exact Nat.ne_of_gt l4⟩
  have hfin : ∀ w3 b, Upd [p, f, B.m] w2 w3 → _ → w2.heap.size ≤ b → _ → AX w0 w3 xb (some (p, g, f)) wp _ SLr told _ (mark _ b 13) _ _ _ toa toc ra rc := fun w3 b hu hp hb hA => h1.putB (y := x) hl1 hl2 hn hs hz hu hp hb hA
  rw [gens_at hs] at hcl hfin
  replace hfin := Lib.hid hfin
  replace hcl := Lib.hid hcl
  replace hx1 := Lib.hid hx1
  replace hw1 := Lib.hid hw1
  replace hnot := Lib.hid hnot
  replace hz1 := Lib.hid hz1
  replace hw2 := Lib.hid hw2
  clear h h0 h1 hx0 hB0 hn hs hz n1 n2 n3 n4 n5 n6 hRl hnew hB1 hl1 hl2
  generalize (freeOf SLp).idxOf true = ix at *
  go_enter Try.func43, Try.ntmps43
  go_wp2_with fail
  have e1 : w.heap.size + 1 = w1.heap.size := by rw [hw1.out]; simp
  rw [← hw1.out, ← hw2.out, e1]
  clear e1
  refine hcl.out.mono ?_
  clear hcl
  rintro z w3 ⟨rfl, hu3, hp3, b3, hb3, ha3⟩
  have hx3 := hu3.heap hx1.out hnot.out
  have h3 := hfin.out w3 b3 hu3 hp3 hb3 ha3
  have r0 : w3.cell? ⟨w.heap.size, 0, none⟩ = some (.int .i64 0) := by rw [cell_of_heap hx3]; rfl
  have r1 : w3.cell? ⟨w.heap.size, 1, none⟩ = some (.int .u64 0) := by rw [cell_of_heap hx3]; rfl
  have f0 : w3.frozen? ⟨w.heap.size, 0, none⟩ = false := frozen_of_heap hx3 _
  have f1 : w3.frozen? ⟨w.heap.size, 1, none⟩ = false := frozen_of_heap hx3 _
  have rl := heap_lt hx3
  have hz1' := hz1.out
  have hr8 : mark (mark (mark ρ w.heap.size 9) w1.heap.size 7) b3 13 w.heap.size = 9 := by
    rw [mark_other (by omega), mark_other (by omega)]
    exact mark_self
  have hfz : ∀ u v, AW w0 ((w3.setCell ⟨w.heap.size, 0, none⟩ u).setCell ⟨w.heap.size, 1, none⟩ v) xb (some (p, g, f)) wp (SLp.set ix ⟨s.gen, 2, x⟩) SLr told K := fun u v => ((h3.set9 hr8 0 u).set9 hr8 1 v).aw
  replace hfz := Lib.hid hfz
  clear hr8 hz1'
  clear hu3 hp3 hb3 ha3 hx3 h3
  go_wp2_with fail
  exact bodyPost_ret (v := .tuple #[.agg #[.int .i64 ix, .int .u64 s.gen], .int .i64 0]) (by simp [results, Try.results43, go_sem, r0, r1]) rfl ⟨rfl, hfz.out _ _⟩

set_option maxRecDepth 100000 in
set_option maxHeartbeats 1000000 in
theorem releaseC_alive (h : AX w0 w xb P wp SLp SLr told K ρ A B C toa toc ra rc) (i : Nat) (s : Sl) (hs : SLp[i]? = some s) (hk : s.who = 3) :
    Calls Try.prog 45 #[.pointer (some ⟨xb, 0, none⟩), .int .i64 3, .agg #[.int .i64 i, .int .u64 s.gen]] w fun e w' => e = .returned (.bool true) ∧ AW w0 w' xb P wp (SLp.set i ⟨IntKind.u64.wrap (s.gen + 1), 0, ⟨#[]⟩⟩) SLr told K := by
  obtain ⟨p, g, f, rfl⟩ := h.pool (fun hh => by rw [hh] at hs; simp at hs)
  obtain ⟨w1, hw1⟩ : ∃ w1, w1 = w.alloc (.cells #[.int .i64 i, .int .u64 s.gen] 40) := ⟨_, rfl⟩
  have hB0 : Below w.heap.size w w1 := by rw [hw1]; exact (Below.refl _ _).alloc (Nat.le_refl _) _
  have hx0 : w1.heap[w.heap.size]? = some (.cells #[.int .i64 i, .int .u64 s.gen] 40) := by rw [hw1]; exact heap_alloc_new _ _
  have hB : Below w.heap.size w w1.drew := hB0.drew
  have h0 := h.below hB0
  have h1 := h.below hB
  have c2 := h0.xc.c2
  have xl := h0.xc.lt
  have y0 : w1.cell? ⟨w.heap.size, 0, none⟩ = some (.int .i64 i) := by rw [cell_of_heap hx0]; rfl
  have y1 : w1.cell? ⟨w.heap.size, 1, none⟩ = some (.int .u64 s.gen) := by rw [cell_of_heap hx0]; rfl
  have yl := heap_lt hx0
  obtain ⟨e, s', he, h2, h3, h4, _, _, hct⟩ := h1.sc.alive (aliveB_of hs hk)
  have h2' : e.slot = i := by omega
  have h4' := h4
  rw [h2', hs] at h4
  injection h4 with h4
  subst h4
  obtain ⟨n1, n2, n3, n4, n5, n6⟩ := h1.ars.neq (i := 2) (d := arS C) rfl
  have hcl := AStr.gRelease_some C p g f [p, g, f, C.m] _ _ i s.gen e _ (h1.ars.gR (i := 2) (d := arS C) rfl) h1.ars.pool.1 he h2 h3 ((h1.ars.ar 2 _ rfl).th e he).2 n1 n2 n3 n4 n5 n6 (by simp)
  have hnot : w.heap.size ∉ [p, g, f, C.m] := by
    obtain ⟨l1, l2, l3⟩ := (h.ars.pool.1).lts
    have l4 := (h.ars.ar 2 (arS C) rfl).lts.2.1
    simp only [List.mem_cons, List.not_mem_nil, or_false, not_or]
    exact ⟨by omega, by omega, by omega, by show w.heap.size ≠ C.m; exact Nat.ne_of_gt l4⟩
  have hfin : ∀ w2, Upd [p, g, f, C.m] w1.drew w2 → _ → _ → AX w0 w2 xb (some (p, g, f)) wp _ SLr told K ρ _ _ _ toa toc ra rc := fun w2 hu hp hA => h1.relC he h4' hk hu hp hA
  rw [h2'] at hfin hcl
  replace hfin := Lib.hid hfin
  replace hcl := Lib.hid hcl
  replace hw1 := Lib.hid hw1
  replace hnot := Lib.hid hnot
  clear h h0 h1 hx0 hB0 hB hct he h2 h3 h4' h2' hs hk n1 n2 n3 n4 n5 n6
  go_enter Try.func45, Try.ntmps45
  go_wp2_with fail
  rw [← hw1.out]
  go_region_held3 (fun w' => w'.cell? ⟨xb, 2, none⟩ = some (.pointer (some ⟨C.a, 0, none⟩)) ∧ w'.cell? ⟨w.heap.size, 0, none⟩ = some (.int .i64 i) ∧ w'.cell? ⟨w.heap.size, 1, none⟩ = some (.int .u64 s.gen)) (first | exact ⟨i0, i1, i2⟩ | go_keep) (first
    | (go_at_call 14; refine hcl.out.mono ?_; rintro z w2 ⟨rfl, hu2, hp2, ha2⟩; have hx2 := hfin.out w2 hu2 hp2 ha2; have i0 := hx2.xc.c2; have i1 := hu2.cell (w := w1.drew) y0 hnot.out; have i2 := hu2.cell (w := w1.drew) y1 hnot.out; replace hx2 := Lib.hid hx2.aw; clear hu2 hp2 ha2))
  all_goals
    go_wp2_with fail
    go_ret
    exact ⟨rfl, hx2.out⟩

theorem AX.fullC (h : AX w0 w xb P wp SLp SLr told K ρ A B C toa toc ra rc) (x : ByteArray) (hn : true ∉ freeOf SLp) :
    Calls Try.prog 13 #[.pointer (some ⟨C.a, 0, none⟩), .string x] w fun e w' => e = .returned (.tuple #[.agg #[.int .i64 0, .int .u64 0], .int .i64 5]) ∧ Below w.heap.size w w' := by
  cases P with
  | none => exact AStr.aAlloc_nopool C.a C.m _ C.c x w (AStr.AG.is (R := []) (A := C) (h.ars.ar 2 (arS C) rfl).g)
  | some q => exact AStr.gAlloc_full C q.1 q.2.1 q.2.2 [] _ _ x w (h.ars.ar 2 (arS C) rfl).g h.ars.pool.1 hn

set_option maxRecDepth 100000 in
set_option maxHeartbeats 1000000 in
theorem allocC_full (h : AX w0 w xb P wp SLp SLr told K ρ A B C toa toc ra rc) (x : ByteArray) (hn : true ∉ freeOf SLp) :
    Calls Try.prog 43 #[.pointer (some ⟨xb, 0, none⟩), .int .i64 3, .string x] w fun e w' => e = .returned (.tuple #[.agg #[.int .i64 0, .int .u64 0], .int .i64 5]) ∧ Below w.heap.size w w' := by
  obtain ⟨w1, hw1⟩ : ∃ w1, w1 = w.alloc (.cells #[.int .i64 0, .int .u64 0] 40) := ⟨_, rfl⟩
  have hB0 : Below w.heap.size w w1 := by rw [hw1]; exact (Below.refl _ _).alloc (Nat.le_refl _) _
  have hx0 : w1.heap[w.heap.size]? = some (.cells #[.int .i64 0, .int .u64 0] 40) := by rw [hw1]; exact heap_alloc_new _ _
  have h0 := h.below hB0
  have c2 := h.xc.c2
  have xl := h.xc.lt
  obtain ⟨w2, hw2⟩ : ∃ w2, w2 = w1 := ⟨_, rfl⟩
  subst hw2
  have hx1 := hx0
  have hcl := h0.fullC x hn
  have hB := hB0
  replace hcl := Lib.hid hcl
  replace hx1 := Lib.hid hx1
  replace hw1 := Lib.hid hw1

  replace hB := Lib.hid hB
  clear h h0 hx0 hB0 hn 
  go_enter Try.func43, Try.ntmps43
  go_wp2_with fail
  rw [← hw1.out]
  refine hcl.out.mono ?_
  clear hcl
  rintro z w3 ⟨rfl, hb3⟩
  have hx3 := Below.heap' hb3 hx1.out
  have r0 : w3.cell? ⟨w.heap.size, 0, none⟩ = some (.int .i64 0) := by rw [cell_of_heap hx3]; rfl
  have r1 : w3.cell? ⟨w.heap.size, 1, none⟩ = some (.int .u64 0) := by rw [cell_of_heap hx3]; rfl
  have f0 : w3.frozen? ⟨w.heap.size, 0, none⟩ = false := frozen_of_heap hx3 _
  have f1 : w3.frozen? ⟨w.heap.size, 1, none⟩ = false := frozen_of_heap hx3 _
  have rl := heap_lt hx3
  have hB3 := Lib.hid (hB.out.trans (hb3.mono hB.out.size))
  clear hb3 hx3
  go_wp2_with fail
  exact bodyPost_ret (v := .tuple #[.agg #[.int .i64 0, .int .u64 0], .int .i64 5]) (by simp [results, Try.results43, go_sem, r0, r1]) rfl ⟨rfl, (hB3.out.setCell (p := ⟨w.heap.size, 0, none⟩) (Nat.le_refl _) _).setCell (p := ⟨w.heap.size, 1, none⟩) (Nat.le_refl _) _⟩

set_option maxRecDepth 100000 in
set_option maxHeartbeats 1000000 in
theorem allocC_some (h : AX w0 w xb P wp SLp SLr told K ρ A B C toa toc ra rc) (x : ByteArray) (hn : true ∈ freeOf SLp) (s : Sl) (hs : SLp[(freeOf SLp).idxOf true]? = some s) (hz : s.who = 0) :
    Calls Try.prog 43 #[.pointer (some ⟨xb, 0, none⟩), .int .i64 3, .string x] w fun e w' => e = .returned (.tuple #[.agg #[.int .i64 ((freeOf SLp).idxOf true : Nat), .int .u64 s.gen], .int .i64 0]) ∧ AW w0 w' xb P wp (SLp.set ((freeOf SLp).idxOf true) ⟨s.gen, 3, x⟩) SLr told K := by
  obtain ⟨p, g, f, rfl⟩ := h.pool (fun hh => by rw [hh] at hs; simp at hs)
  obtain ⟨w1, hw1⟩ : ∃ w1, w1 = w.alloc (.cells #[.int .i64 0, .int .u64 0] 40) := ⟨_, rfl⟩
  have hB0 : Below w.heap.size w w1 := by rw [hw1]; exact (Below.refl _ _).alloc (Nat.le_refl _) _
  have hx0 : w1.heap[w.heap.size]? = some (.cells #[.int .i64 0, .int .u64 0] 40) := by rw [hw1]; exact heap_alloc_new _ _
  have h0 : AX w0 w1 xb (some (p, g, f)) wp SLp SLr told K (mark ρ w.heap.size 9) A B C toa toc ra rc := by rw [hw1]; exact h.alloc9 _
  have hz1 : w1.heap.size = w.heap.size + 1 := by rw [hw1]; simp
  have c2 := h.xc.c2
  have xl := h.xc.lt
  obtain ⟨w2, hw2⟩ : ∃ w2, w2 = w1 := ⟨_, rfl⟩
  subst hw2
  have hx1 := hx0
  have h1 := h0
  obtain ⟨n1, n2, n3, n4, n5, n6⟩ := h1.ars.neq (i := 2) (d := arS C) rfl
  have hRl : ∀ r, r ∈ [p, g, f, C.m] → r < w2.heap.size := fun r hr => h1.ro.lt (fun hh => by
    have := h1.ars.pR (i := 2) (d := arS C) rfl r hr
    rw [hh] at this
    simp at this)

  have hnew : ∀ e, e ∈ C.L → e.slot ≠ (freeOf SLp).idxOf true := fun e he => idx_ne' ((h1.ars.ar 2 (arS C) rfl).th e he).2 hn
  have hcl := AStr.gAlloc_some C p g f [p, g, f, C.m] _ _ x w2 (h1.ars.gR (i := 2) (d := arS C) rfl) h1.ars.pool.1 hn n1 n2 n4 n5 n6 (by simp) hRl hnew
  have hnot : w.heap.size ∉ [p, f, C.m] := by
    obtain ⟨l1, l2, l3⟩ := (h.ars.pool.1).lts
    have l4 := (h.ars.ar 2 (arS C) rfl).lts.2.1
    simp only [List.mem_cons, List.not_mem_nil, or_false, not_or]
    exact ⟨by omega, by omega, by show w.heap.size ≠ C.m; exact Nat.ne_of_gt l4⟩
  have hfin : ∀ w3 b, Upd [p, f, C.m] w2 w3 → _ → w2.heap.size ≤ b → _ → AX w0 w3 xb (some (p, g, f)) wp _ SLr told _ (mark _ b 16) _ _ _ toa toc ra rc := fun w3 b hu hp hb hA => h1.putC (y := x) hn hs hz hu hp hb hA
  rw [gens_at hs] at hcl hfin
  replace hfin := Lib.hid hfin
  replace hcl := Lib.hid hcl
  replace hx1 := Lib.hid hx1
  replace hw1 := Lib.hid hw1
  replace hnot := Lib.hid hnot
  replace hz1 := Lib.hid hz1

  clear h h0 h1 hx0 hB0 hn hs hz n1 n2 n3 n4 n5 n6 hRl hnew 
  generalize (freeOf SLp).idxOf true = ix at *
  go_enter Try.func43, Try.ntmps43
  go_wp2_with fail
  rw [← hw1.out]
  refine hcl.out.mono ?_
  clear hcl
  rintro z w3 ⟨rfl, hu3, hp3, b3, hb3, ha3⟩
  have hx3 := hu3.heap hx1.out hnot.out
  have h3 := hfin.out w3 b3 hu3 hp3 hb3 ha3
  have r0 : w3.cell? ⟨w.heap.size, 0, none⟩ = some (.int .i64 0) := by rw [cell_of_heap hx3]; rfl
  have r1 : w3.cell? ⟨w.heap.size, 1, none⟩ = some (.int .u64 0) := by rw [cell_of_heap hx3]; rfl
  have f0 : w3.frozen? ⟨w.heap.size, 0, none⟩ = false := frozen_of_heap hx3 _
  have f1 : w3.frozen? ⟨w.heap.size, 1, none⟩ = false := frozen_of_heap hx3 _
  have rl := heap_lt hx3
  have hz1' := hz1.out
  have hr8 : mark (mark ρ w.heap.size 9) b3 16 w.heap.size = 9 := by
    rw [mark_other (by omega)]
    exact mark_self
  have hfz : ∀ u v, AW w0 ((w3.setCell ⟨w.heap.size, 0, none⟩ u).setCell ⟨w.heap.size, 1, none⟩ v) xb (some (p, g, f)) wp (SLp.set ix ⟨s.gen, 3, x⟩) SLr told K := fun u v => ((h3.set9 hr8 0 u).set9 hr8 1 v).aw
  replace hfz := Lib.hid hfz
  clear hr8 hz1'
  clear hu3 hp3 hb3 ha3 hx3 h3
  go_wp2_with fail
  exact bodyPost_ret (v := .tuple #[.agg #[.int .i64 ix, .int .u64 s.gen], .int .i64 0]) (by simp [results, Try.results43, go_sem, r0, r1]) rfl ⟨rfl, hfz.out _ _⟩
end
end Go.Proofs.Ytoknkedmpdcinaa
