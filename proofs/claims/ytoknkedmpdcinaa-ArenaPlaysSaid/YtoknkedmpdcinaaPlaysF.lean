/- The law ArenaPlays: its functions get, release, alloc and handles. -/
import Derived.Test.YtoknkedmpdcinaaPlaysA
import Derived.Deep.RegionHeld3
namespace Go.Proofs.Ytoknkedmpdcinaa
open Go.RowKit
section
variable {w0 w w' : World} {xb : Nat} {P : PBk} {wp : RB} {SLp SLr SL' : List Sl} {told : List (Int × Int)} {K : List (Nat × Obj)} {ρ ρ' : Nat → Nat} {A B C : AR} {aa ca ba : Nat} {toa : Option Addr} {toc : Nat} {ra : Option Addr} {rc : Nat} {rs : List Nat}
structure XC (w : World) (xb : Nat) (P : PBk) (wp : RB) (aa ca ba : Nat) (told : List (Int × Int)) (toa : Option Addr) (toc : Nat) : Prop where
  c0 : w.cell? ⟨xb, 0, none⟩ = some (.pointer (paddr P))
  c1 : w.cell? ⟨xb, 1, none⟩ = some (.pointer (some ⟨aa, 0, none⟩))
  c2 : w.cell? ⟨xb, 2, none⟩ = some (.pointer (some ⟨ca, 0, none⟩))
  c3 : w.cell? ⟨xb, 3, none⟩ = some (.pointer (some ⟨ba, 0, none⟩))
  c4 : w.cell? ⟨xb, 4, none⟩ = some (rptr (wpo wp))
  c5 : w.cell? ⟨xb, 5, none⟩ = some (.slice toa told.length toc)
  fr : ∀ i, w.frozen? ⟨xb, i, none⟩ = false
  lt : xb < w.heap.size
theorem AX.xc (h : AX w0 w xb P wp SLp SLr told K ρ A B C toa toc ra rc) : XC w xb P wp A.a C.a B.a told toa toc := by
  have hb := h.lb.xblk
  exact ⟨by rw [cell_of_heap hb]; rfl, by rw [cell_of_heap hb]; rfl, by rw [cell_of_heap hb]; rfl, by rw [cell_of_heap hb]; rfl, by rw [cell_of_heap hb]; rfl, by rw [cell_of_heap hb]; rfl, frozen_of_heap hb, heap_lt hb⟩
def box2 (hs hg : Int) : Obj := .cells #[.int .i64 hs, .int .u64 hg] 40
theorem nil_neq_t (w : World) : (binOp .neq 126 (.pointer none) (.pointer none)).run Try.prog w = .ok (.bool false) w := by kernel_rfl
theorem nil_neq_s (w : World) : (binOp .neq 50 (.pointer none) (.pointer none)).run Try.prog w = .ok (.bool false) w := by kernel_rfl

set_option maxRecDepth 100000 in
set_option maxHeartbeats 1000000 in
theorem getA_alive (h : AX w0 w xb P wp SLp SLr told K ρ A B C toa toc ra rc) (i : Nat) (s : Sl) (hs : SLp[i]? = some s) (hk : s.who = 1) :
    Calls Try.prog 48 #[.pointer (some ⟨xb, 0, none⟩), .int .i64 1, .agg #[.int .i64 i, .int .u64 s.gen]] w fun e w' => e = .returned (.tuple #[.string s.x, .bool true]) ∧ Below w.heap.size w w' := by
  obtain ⟨w1, hw1⟩ : ∃ w1, w1 = w.alloc (.cells #[.int .i64 i, .int .u64 s.gen] 40) := ⟨_, rfl⟩
  have hB0 : Below w.heap.size w w1 := by rw [hw1]; exact (Below.refl _ _).alloc (Nat.le_refl _) _
  have hx0 : w1.heap[w.heap.size]? = some (.cells #[.int .i64 i, .int .u64 s.gen] 40) := by rw [hw1]; exact heap_alloc_new _ _
  have hB : Below w.heap.size w w1.drew := hB0.drew
  have h0 := h.below hB0
  have h1 := h.below hB
  have c1 := h0.xc.c1
  have xl := h0.xc.lt
  have y0 : w1.cell? ⟨w.heap.size, 0, none⟩ = some (.int .i64 i) := by rw [cell_of_heap hx0]; rfl
  have y1 : w1.cell? ⟨w.heap.size, 1, none⟩ = some (.int .u64 s.gen) := by rw [cell_of_heap hx0]; rfl
  have yl := heap_lt hx0
  obtain ⟨e, s', he, h2, h3, h4, _, _, hct⟩ := h1.sa.alive (aliveB_of hs hk)
  have h2' : e.slot = i := by omega
  rw [h2', hs] at h4
  injection h4 with h4
  subst h4
  have hcl := AStr.gGet_some A [] (paddr P) i s.gen e _ (h1.ars.ar 0 _ rfl).g he h2 h3
  have hE : ∀ w2, Below w1.drew.heap.size w1.drew w2 → w2.heap[e.blk]? = some (.cells (.int .u64 e.gen :: e.xs).toArray 94) := fun w2 hb => Below.heap' hb ((h1.ars.ar 0 _ rfl).g.2.2.2.2.2 e he).2
  rw [show e.xs = [.string s.x] from hct] at hE
  replace hE := Lib.hid hE
  replace hcl := Lib.hid hcl
  replace hB := Lib.hid hB
  replace hw1 := Lib.hid hw1
  clear h h0 h1 hx0 hB0 hct he h2 h3 h2' hs hk
  generalize e.blk = eb at *
  go_enter Try.func48, Try.ntmps48
  go_wp2_with fail
  rw [← hw1.out]
  go_region_held3 (fun w' => w'.cell? ⟨xb, 1, none⟩ = some (.pointer (some ⟨A.a, 0, none⟩)) ∧ w'.cell? ⟨w.heap.size, 0, none⟩ = some (.int .i64 i) ∧ w'.cell? ⟨w.heap.size, 1, none⟩ = some (.int .u64 s.gen)) (first | exact ⟨i0, i1, i2⟩ | go_keep) (first
    | (go_at_call 18; refine hcl.out.mono ?_; rintro z w2 ⟨rfl, hb2⟩; have i0 := keep (W := w1.drew) hb2 c1; have i1 := keep (W := w1.drew) hb2 y0; have i2 := keep (W := w1.drew) hb2 y1; replace hb2 := Lib.hid hb2))
  all_goals
    have hh := hE.out _ hb2.out
    have d1 : w2.cell? ⟨eb, 1, none⟩ = some (.string s.x) := by rw [cell_of_heap hh]; rfl
    have el := heap_lt hh
    replace hB := Lib.hid (hB.out.trans (hb2.out.mono hB.out.size))
    clear hh
    go_wp2_with fail
    go_ret2
    exact ⟨rfl, hB.out⟩

set_option maxRecDepth 100000 in
set_option maxHeartbeats 1000000 in
theorem getA_dead (h : AX w0 w xb P wp SLp SLr told K ρ A B C toa toc ra rc) (hs hg : Int) (ha : aliveB SLp 1 hs hg = false) :
    Calls Try.prog 48 #[.pointer (some ⟨xb, 0, none⟩), .int .i64 1, .agg #[.int .i64 hs, .int .u64 hg]] w fun e w' => e = .returned (.tuple #[.string ⟨#[]⟩, .bool false]) ∧ Below w.heap.size w w' := by
  obtain ⟨w1, hw1⟩ : ∃ w1, w1 = w.alloc (.cells #[.int .i64 hs, .int .u64 hg] 40) := ⟨_, rfl⟩
  have hB0 : Below w.heap.size w w1 := by rw [hw1]; exact (Below.refl _ _).alloc (Nat.le_refl _) _
  have hx0 : w1.heap[w.heap.size]? = some (.cells #[.int .i64 hs, .int .u64 hg] 40) := by rw [hw1]; exact heap_alloc_new _ _
  have hB : Below w.heap.size w w1.drew := hB0.drew
  have h0 := h.below hB0
  have h1 := h.below hB
  have c1 := h0.xc.c1
  have xl := h0.xc.lt
  have y0 : w1.cell? ⟨w.heap.size, 0, none⟩ = some (.int .i64 hs) := by rw [cell_of_heap hx0]; rfl
  have y1 : w1.cell? ⟨w.heap.size, 1, none⟩ = some (.int .u64 hg) := by rw [cell_of_heap hx0]; rfl
  have yl := heap_lt hx0
  have hcl := AStr.gGet_none A [] (paddr P) hs hg _ (h1.ars.ar 0 _ rfl).g (h1.sa.dead ha)
  have hnn := nil_neq_s
  replace hcl := Lib.hid hcl
  replace hB := Lib.hid hB
  replace hw1 := Lib.hid hw1
  clear h h0 h1 hx0 hB0 ha
  go_enter Try.func48, Try.ntmps48
  go_wp2_with fail
  rw [← hw1.out]
  go_region_held3 (fun w' => w'.cell? ⟨xb, 1, none⟩ = some (.pointer (some ⟨A.a, 0, none⟩)) ∧ w'.cell? ⟨w.heap.size, 0, none⟩ = some (.int .i64 hs) ∧ w'.cell? ⟨w.heap.size, 1, none⟩ = some (.int .u64 hg)) (first | exact ⟨i0, i1, i2⟩ | go_keep) (first
    | (go_at_call 18; refine hcl.out.mono ?_; rintro z w2 ⟨rfl, hb2⟩; have i0 := keep (W := w1.drew) hb2 c1; have i1 := keep (W := w1.drew) hb2 y0; have i2 := keep (W := w1.drew) hb2 y1; replace hb2 := Lib.hid hb2))
  all_goals
    replace hB := Lib.hid (hB.out.trans (hb2.out.mono hB.out.size))
    go_wp2_with fail
    go_ret2
    exact ⟨rfl, hB.out⟩

set_option maxRecDepth 100000 in
set_option maxHeartbeats 1000000 in
theorem releaseA_dead (h : AX w0 w xb P wp SLp SLr told K ρ A B C toa toc ra rc) (hs hg : Int) (ha : aliveB SLp 1 hs hg = false) :
    Calls Try.prog 45 #[.pointer (some ⟨xb, 0, none⟩), .int .i64 1, .agg #[.int .i64 hs, .int .u64 hg]] w fun e w' => e = .returned (.bool false) ∧ Below w.heap.size w w' := by
  obtain ⟨w1, hw1⟩ : ∃ w1, w1 = w.alloc (.cells #[.int .i64 hs, .int .u64 hg] 40) := ⟨_, rfl⟩
  have hB0 : Below w.heap.size w w1 := by rw [hw1]; exact (Below.refl _ _).alloc (Nat.le_refl _) _
  have hx0 : w1.heap[w.heap.size]? = some (.cells #[.int .i64 hs, .int .u64 hg] 40) := by rw [hw1]; exact heap_alloc_new _ _
  have hB : Below w.heap.size w w1.drew := hB0.drew
  have h0 := h.below hB0
  have h1 := h.below hB
  have c1 := h0.xc.c1
  have xl := h0.xc.lt
  have y0 : w1.cell? ⟨w.heap.size, 0, none⟩ = some (.int .i64 hs) := by rw [cell_of_heap hx0]; rfl
  have y1 : w1.cell? ⟨w.heap.size, 1, none⟩ = some (.int .u64 hg) := by rw [cell_of_heap hx0]; rfl
  have yl := heap_lt hx0
  have hcl := AStr.gRelease_none A [] (paddr P) hs hg _ (h1.ars.ar 0 _ rfl).g (h1.sa.dead ha)
  replace hcl := Lib.hid hcl
  replace hB := Lib.hid hB
  replace hw1 := Lib.hid hw1
  clear h h0 h1 hx0 hB0 ha
  go_enter Try.func45, Try.ntmps45
  go_wp2_with fail
  rw [← hw1.out]
  go_region_held3 (fun w' => w'.cell? ⟨xb, 1, none⟩ = some (.pointer (some ⟨A.a, 0, none⟩)) ∧ w'.cell? ⟨w.heap.size, 0, none⟩ = some (.int .i64 hs) ∧ w'.cell? ⟨w.heap.size, 1, none⟩ = some (.int .u64 hg)) (first | exact ⟨i0, i1, i2⟩ | go_keep) (first
    | (go_at_call 14; refine hcl.out.mono ?_; rintro z w2 ⟨rfl, hb2⟩; have i0 := keep (W := w1.drew) hb2 c1; have i1 := keep (W := w1.drew) hb2 y0; have i2 := keep (W := w1.drew) hb2 y1; replace hb2 := Lib.hid hb2))
  all_goals
    replace hB := Lib.hid (hB.out.trans (hb2.out.mono hB.out.size))
    go_wp2_with fail
    go_ret
    exact ⟨rfl, hB.out⟩

set_option maxRecDepth 100000 in
set_option maxHeartbeats 1000000 in
theorem getB_alive (h : AX w0 w xb P wp SLp SLr told K ρ A B C toa toc ra rc) (i : Nat) (s : Sl) (hs : SLp[i]? = some s) (hk : s.who = 2) :
    Calls Try.prog 48 #[.pointer (some ⟨xb, 0, none⟩), .int .i64 2, .agg #[.int .i64 i, .int .u64 s.gen]] w fun e w' => e = .returned (.tuple #[.string s.x, .bool true]) ∧ Below w.heap.size w w' := by
  obtain ⟨w1, hw1⟩ : ∃ w1, w1 = w.alloc (.cells #[.int .i64 i, .int .u64 s.gen] 40) := ⟨_, rfl⟩
  have hB0 : Below w.heap.size w w1 := by rw [hw1]; exact (Below.refl _ _).alloc (Nat.le_refl _) _
  have hx0 : w1.heap[w.heap.size]? = some (.cells #[.int .i64 i, .int .u64 s.gen] 40) := by rw [hw1]; exact heap_alloc_new _ _
  have hB : Below w.heap.size w w1.drew := hB0.drew
  have h0 := h.below hB0
  have h1 := h.below hB
  have c3 := h0.xc.c3
  have xl := h0.xc.lt
  have y0 : w1.cell? ⟨w.heap.size, 0, none⟩ = some (.int .i64 i) := by rw [cell_of_heap hx0]; rfl
  have y1 : w1.cell? ⟨w.heap.size, 1, none⟩ = some (.int .u64 s.gen) := by rw [cell_of_heap hx0]; rfl
  have yl := heap_lt hx0
  obtain ⟨e, s', he, h2, h3, h4, _, _, hct⟩ := h1.sb.alive (aliveB_of hs hk)
  have h2' : e.slot = i := by omega
  rw [h2', hs] at h4
  injection h4 with h4
  subst h4
  have hcl := AThing.gGet_some B [] (paddr P) i s.gen e _ (h1.ars.ar 1 _ rfl).g he h2 h3
  have hE : ∀ w2, Below w1.drew.heap.size w1.drew w2 → w2.heap[e.blk]? = some (.cells (.int .u64 e.gen :: e.xs).toArray 131) := fun w2 hb => Below.heap' hb ((h1.ars.ar 1 _ rfl).g.2.2.2.2.2 e he).2
  obtain ⟨lb, hxs, _, hlb⟩ := hct
  rw [hxs] at hE
  have hL : ∀ w2, Below w1.drew.heap.size w1.drew w2 → w2.heap[lb]? = some (.cells #[.string s.x] 9) := fun w2 hb => Below.heap' hb hlb
  replace hL := Lib.hid hL
  replace hE := Lib.hid hE
  replace hcl := Lib.hid hcl
  replace hB := Lib.hid hB
  replace hw1 := Lib.hid hw1
  clear h h0 h1 hx0 hB0 he h2 h3 h2' hs hk
  generalize e.blk = eb at *
  go_enter Try.func48, Try.ntmps48
  go_wp2_with fail
  rw [← hw1.out]
  go_region_held3 (fun w' => w'.cell? ⟨xb, 3, none⟩ = some (.pointer (some ⟨B.a, 0, none⟩)) ∧ w'.cell? ⟨w.heap.size, 0, none⟩ = some (.int .i64 i) ∧ w'.cell? ⟨w.heap.size, 1, none⟩ = some (.int .u64 s.gen)) (first | exact ⟨i0, i1, i2⟩ | go_keep) (first
    | (go_at_call 58; refine hcl.out.mono ?_; rintro z w2 ⟨rfl, hb2⟩; have i0 := keep (W := w1.drew) hb2 c3; have i1 := keep (W := w1.drew) hb2 y0; have i2 := keep (W := w1.drew) hb2 y1; replace hb2 := Lib.hid hb2))
  all_goals
    have hh := hE.out _ hb2.out
    have d1 : w2.cell? ⟨eb, 1, none⟩ = some (.slice (some ⟨lb, 0, none⟩) 1 1) := by rw [cell_of_heap hh]; rfl
    have el := heap_lt hh
    have hh2 := hL.out _ hb2.out
    have d2 : w2.cell? ⟨lb, 0, none⟩ = some (.string s.x) := by rw [cell_of_heap hh2]; rfl
    have ll := heap_lt hh2
    clear hh2
    replace hB := Lib.hid (hB.out.trans (hb2.out.mono hB.out.size))
    clear hh
    go_wp2_with fail
    go_ret2
    exact ⟨rfl, hB.out⟩

set_option maxRecDepth 100000 in
set_option maxHeartbeats 1000000 in
theorem getB_dead (h : AX w0 w xb P wp SLp SLr told K ρ A B C toa toc ra rc) (hs hg : Int) (ha : aliveB SLp 2 hs hg = false) :
    Calls Try.prog 48 #[.pointer (some ⟨xb, 0, none⟩), .int .i64 2, .agg #[.int .i64 hs, .int .u64 hg]] w fun e w' => e = .returned (.tuple #[.string ⟨#[]⟩, .bool false]) ∧ Below w.heap.size w w' := by
  obtain ⟨w1, hw1⟩ : ∃ w1, w1 = w.alloc (.cells #[.int .i64 hs, .int .u64 hg] 40) := ⟨_, rfl⟩
  have hB0 : Below w.heap.size w w1 := by rw [hw1]; exact (Below.refl _ _).alloc (Nat.le_refl _) _
  have hx0 : w1.heap[w.heap.size]? = some (.cells #[.int .i64 hs, .int .u64 hg] 40) := by rw [hw1]; exact heap_alloc_new _ _
  have hB : Below w.heap.size w w1.drew := hB0.drew
  have h0 := h.below hB0
  have h1 := h.below hB
  have c3 := h0.xc.c3
  have xl := h0.xc.lt
  have y0 : w1.cell? ⟨w.heap.size, 0, none⟩ = some (.int .i64 hs) := by rw [cell_of_heap hx0]; rfl
  have y1 : w1.cell? ⟨w.heap.size, 1, none⟩ = some (.int .u64 hg) := by rw [cell_of_heap hx0]; rfl
  have yl := heap_lt hx0
  have hcl := AThing.gGet_none B [] (paddr P) hs hg _ (h1.ars.ar 1 _ rfl).g (h1.sb.dead ha)
  have hnn := nil_neq_t
  replace hcl := Lib.hid hcl
  replace hB := Lib.hid hB
  replace hw1 := Lib.hid hw1
  clear h h0 h1 hx0 hB0 ha
  go_enter Try.func48, Try.ntmps48
  go_wp2_with fail
  rw [← hw1.out]
  go_region_held3 (fun w' => w'.cell? ⟨xb, 3, none⟩ = some (.pointer (some ⟨B.a, 0, none⟩)) ∧ w'.cell? ⟨w.heap.size, 0, none⟩ = some (.int .i64 hs) ∧ w'.cell? ⟨w.heap.size, 1, none⟩ = some (.int .u64 hg)) (first | exact ⟨i0, i1, i2⟩ | go_keep) (first
    | (go_at_call 58; refine hcl.out.mono ?_; rintro z w2 ⟨rfl, hb2⟩; have i0 := keep (W := w1.drew) hb2 c3; have i1 := keep (W := w1.drew) hb2 y0; have i2 := keep (W := w1.drew) hb2 y1; replace hb2 := Lib.hid hb2))
  all_goals
    replace hB := Lib.hid (hB.out.trans (hb2.out.mono hB.out.size))
    go_wp2_with fail
    go_ret2
    exact ⟨rfl, hB.out⟩

set_option maxRecDepth 100000 in
set_option maxHeartbeats 1000000 in
theorem releaseB_dead (h : AX w0 w xb P wp SLp SLr told K ρ A B C toa toc ra rc) (hs hg : Int) (ha : aliveB SLp 2 hs hg = false) :
    Calls Try.prog 45 #[.pointer (some ⟨xb, 0, none⟩), .int .i64 2, .agg #[.int .i64 hs, .int .u64 hg]] w fun e w' => e = .returned (.bool false) ∧ Below w.heap.size w w' := by
  obtain ⟨w1, hw1⟩ : ∃ w1, w1 = w.alloc (.cells #[.int .i64 hs, .int .u64 hg] 40) := ⟨_, rfl⟩
  have hB0 : Below w.heap.size w w1 := by rw [hw1]; exact (Below.refl _ _).alloc (Nat.le_refl _) _
  have hx0 : w1.heap[w.heap.size]? = some (.cells #[.int .i64 hs, .int .u64 hg] 40) := by rw [hw1]; exact heap_alloc_new _ _
  have hB : Below w.heap.size w w1.drew := hB0.drew
  have h0 := h.below hB0
  have h1 := h.below hB
  have c3 := h0.xc.c3
  have xl := h0.xc.lt
  have y0 : w1.cell? ⟨w.heap.size, 0, none⟩ = some (.int .i64 hs) := by rw [cell_of_heap hx0]; rfl
  have y1 : w1.cell? ⟨w.heap.size, 1, none⟩ = some (.int .u64 hg) := by rw [cell_of_heap hx0]; rfl
  have yl := heap_lt hx0
  have hcl := AThing.gRelease_none B [] (paddr P) hs hg _ (h1.ars.ar 1 _ rfl).g (h1.sb.dead ha)
  replace hcl := Lib.hid hcl
  replace hB := Lib.hid hB
  replace hw1 := Lib.hid hw1
  clear h h0 h1 hx0 hB0 ha
  go_enter Try.func45, Try.ntmps45
  go_wp2_with fail
  rw [← hw1.out]
  go_region_held3 (fun w' => w'.cell? ⟨xb, 3, none⟩ = some (.pointer (some ⟨B.a, 0, none⟩)) ∧ w'.cell? ⟨w.heap.size, 0, none⟩ = some (.int .i64 hs) ∧ w'.cell? ⟨w.heap.size, 1, none⟩ = some (.int .u64 hg)) (first | exact ⟨i0, i1, i2⟩ | go_keep) (first
    | (go_at_call 57; refine hcl.out.mono ?_; rintro z w2 ⟨rfl, hb2⟩; have i0 := keep (W := w1.drew) hb2 c3; have i1 := keep (W := w1.drew) hb2 y0; have i2 := keep (W := w1.drew) hb2 y1; replace hb2 := Lib.hid hb2))
  all_goals
    replace hB := Lib.hid (hB.out.trans (hb2.out.mono hB.out.size))
    go_wp2_with fail
    go_ret
    exact ⟨rfl, hB.out⟩

set_option maxRecDepth 100000 in
set_option maxHeartbeats 1000000 in
theorem getC_alive (h : AX w0 w xb P wp SLp SLr told K ρ A B C toa toc ra rc) (i : Nat) (s : Sl) (hs : SLp[i]? = some s) (hk : s.who = 3) :
    Calls Try.prog 48 #[.pointer (some ⟨xb, 0, none⟩), .int .i64 3, .agg #[.int .i64 i, .int .u64 s.gen]] w fun e w' => e = .returned (.tuple #[.string s.x, .bool true]) ∧ Below w.heap.size w w' := by
  obtain ⟨w1, hw1⟩ : ∃ w1, w1 = w.alloc (.cells #[.int .i64 i, .int .u64 s.gen] 40) := ⟨_, rfl⟩
  have hB0 : Below w.heap.size w w1 := by rw [hw1]; exact (Below.refl _ _).alloc (Nat.le_refl _) _
  have hx0 : w1.heap[w.heap.size]? = some (.cells #[.int .i64 i, .int .u64 s.gen] 40) := by rw [hw1]; exact heap_alloc_new _ _
  have hB : Below w.heap.size w w1.drew := hB0.drew
  have h0 := h.below hB0
  have h1 := h.below hB
  have c2 := h0.xc.c2
  have xl := h0.xc.lt
  have y0 : w1.cell? ⟨w.heap.size, 0, none⟩ = some (.int .i64 i) := by rw [cell_of_heap hx0]; rfl
  have y1 : w1.cell? ⟨w.heap.size, 1, none⟩ = some (.int .u64 s.gen) := by rw [cell_of_heap hx0]; rfl
  have yl := heap_lt hx0
  obtain ⟨e, s', he, h2, h3, h4, _, _, hct⟩ := h1.sc.alive (aliveB_of hs hk)
  have h2' : e.slot = i := by omega
  rw [h2', hs] at h4
  injection h4 with h4
  subst h4
  have hcl := AStr.gGet_some C [] (paddr P) i s.gen e _ (h1.ars.ar 2 _ rfl).g he h2 h3
  have hE : ∀ w2, Below w1.drew.heap.size w1.drew w2 → w2.heap[e.blk]? = some (.cells (.int .u64 e.gen :: e.xs).toArray 94) := fun w2 hb => Below.heap' hb ((h1.ars.ar 2 _ rfl).g.2.2.2.2.2 e he).2
  rw [show e.xs = [.string s.x] from hct] at hE
  replace hE := Lib.hid hE
  replace hcl := Lib.hid hcl
  replace hB := Lib.hid hB
  replace hw1 := Lib.hid hw1
  clear h h0 h1 hx0 hB0 hct he h2 h3 h2' hs hk
  generalize e.blk = eb at *
  go_enter Try.func48, Try.ntmps48
  go_wp2_with fail
  rw [← hw1.out]
  go_region_held3 (fun w' => w'.cell? ⟨xb, 2, none⟩ = some (.pointer (some ⟨C.a, 0, none⟩)) ∧ w'.cell? ⟨w.heap.size, 0, none⟩ = some (.int .i64 i) ∧ w'.cell? ⟨w.heap.size, 1, none⟩ = some (.int .u64 s.gen)) (first | exact ⟨i0, i1, i2⟩ | go_keep) (first
    | (go_at_call 18; refine hcl.out.mono ?_; rintro z w2 ⟨rfl, hb2⟩; have i0 := keep (W := w1.drew) hb2 c2; have i1 := keep (W := w1.drew) hb2 y0; have i2 := keep (W := w1.drew) hb2 y1; replace hb2 := Lib.hid hb2))
  all_goals
    have hh := hE.out _ hb2.out
    have d1 : w2.cell? ⟨eb, 1, none⟩ = some (.string s.x) := by rw [cell_of_heap hh]; rfl
    have el := heap_lt hh
    replace hB := Lib.hid (hB.out.trans (hb2.out.mono hB.out.size))
    clear hh
    go_wp2_with fail
    go_ret2
    exact ⟨rfl, hB.out⟩

set_option maxRecDepth 100000 in
set_option maxHeartbeats 1000000 in
theorem getC_dead (h : AX w0 w xb P wp SLp SLr told K ρ A B C toa toc ra rc) (hs hg : Int) (ha : aliveB SLp 3 hs hg = false) :
    Calls Try.prog 48 #[.pointer (some ⟨xb, 0, none⟩), .int .i64 3, .agg #[.int .i64 hs, .int .u64 hg]] w fun e w' => e = .returned (.tuple #[.string ⟨#[]⟩, .bool false]) ∧ Below w.heap.size w w' := by
  obtain ⟨w1, hw1⟩ : ∃ w1, w1 = w.alloc (.cells #[.int .i64 hs, .int .u64 hg] 40) := ⟨_, rfl⟩
  have hB0 : Below w.heap.size w w1 := by rw [hw1]; exact (Below.refl _ _).alloc (Nat.le_refl _) _
  have hx0 : w1.heap[w.heap.size]? = some (.cells #[.int .i64 hs, .int .u64 hg] 40) := by rw [hw1]; exact heap_alloc_new _ _
  have hB : Below w.heap.size w w1.drew := hB0.drew
  have h0 := h.below hB0
  have h1 := h.below hB
  have c2 := h0.xc.c2
  have xl := h0.xc.lt
  have y0 : w1.cell? ⟨w.heap.size, 0, none⟩ = some (.int .i64 hs) := by rw [cell_of_heap hx0]; rfl
  have y1 : w1.cell? ⟨w.heap.size, 1, none⟩ = some (.int .u64 hg) := by rw [cell_of_heap hx0]; rfl
  have yl := heap_lt hx0
  have hcl := AStr.gGet_none C [] (paddr P) hs hg _ (h1.ars.ar 2 _ rfl).g (h1.sc.dead ha)
  have hnn := nil_neq_s
  replace hcl := Lib.hid hcl
  replace hB := Lib.hid hB
  replace hw1 := Lib.hid hw1
  clear h h0 h1 hx0 hB0 ha
  go_enter Try.func48, Try.ntmps48
  go_wp2_with fail
  rw [← hw1.out]
  go_region_held3 (fun w' => w'.cell? ⟨xb, 2, none⟩ = some (.pointer (some ⟨C.a, 0, none⟩)) ∧ w'.cell? ⟨w.heap.size, 0, none⟩ = some (.int .i64 hs) ∧ w'.cell? ⟨w.heap.size, 1, none⟩ = some (.int .u64 hg)) (first | exact ⟨i0, i1, i2⟩ | go_keep) (first
    | (go_at_call 18; refine hcl.out.mono ?_; rintro z w2 ⟨rfl, hb2⟩; have i0 := keep (W := w1.drew) hb2 c2; have i1 := keep (W := w1.drew) hb2 y0; have i2 := keep (W := w1.drew) hb2 y1; replace hb2 := Lib.hid hb2))
  all_goals
    replace hB := Lib.hid (hB.out.trans (hb2.out.mono hB.out.size))
    go_wp2_with fail
    go_ret2
    exact ⟨rfl, hB.out⟩

set_option maxRecDepth 100000 in
set_option maxHeartbeats 1000000 in
theorem releaseC_dead (h : AX w0 w xb P wp SLp SLr told K ρ A B C toa toc ra rc) (hs hg : Int) (ha : aliveB SLp 3 hs hg = false) :
    Calls Try.prog 45 #[.pointer (some ⟨xb, 0, none⟩), .int .i64 3, .agg #[.int .i64 hs, .int .u64 hg]] w fun e w' => e = .returned (.bool false) ∧ Below w.heap.size w w' := by
  obtain ⟨w1, hw1⟩ : ∃ w1, w1 = w.alloc (.cells #[.int .i64 hs, .int .u64 hg] 40) := ⟨_, rfl⟩
  have hB0 : Below w.heap.size w w1 := by rw [hw1]; exact (Below.refl _ _).alloc (Nat.le_refl _) _
  have hx0 : w1.heap[w.heap.size]? = some (.cells #[.int .i64 hs, .int .u64 hg] 40) := by rw [hw1]; exact heap_alloc_new _ _
  have hB : Below w.heap.size w w1.drew := hB0.drew
  have h0 := h.below hB0
  have h1 := h.below hB
  have c2 := h0.xc.c2
  have xl := h0.xc.lt
  have y0 : w1.cell? ⟨w.heap.size, 0, none⟩ = some (.int .i64 hs) := by rw [cell_of_heap hx0]; rfl
  have y1 : w1.cell? ⟨w.heap.size, 1, none⟩ = some (.int .u64 hg) := by rw [cell_of_heap hx0]; rfl
  have yl := heap_lt hx0
  have hcl := AStr.gRelease_none C [] (paddr P) hs hg _ (h1.ars.ar 2 _ rfl).g (h1.sc.dead ha)
  replace hcl := Lib.hid hcl
  replace hB := Lib.hid hB
  replace hw1 := Lib.hid hw1
  clear h h0 h1 hx0 hB0 ha
  go_enter Try.func45, Try.ntmps45
  go_wp2_with fail
  rw [← hw1.out]
  go_region_held3 (fun w' => w'.cell? ⟨xb, 2, none⟩ = some (.pointer (some ⟨C.a, 0, none⟩)) ∧ w'.cell? ⟨w.heap.size, 0, none⟩ = some (.int .i64 hs) ∧ w'.cell? ⟨w.heap.size, 1, none⟩ = some (.int .u64 hg)) (first | exact ⟨i0, i1, i2⟩ | go_keep) (first
    | (go_at_call 14; refine hcl.out.mono ?_; rintro z w2 ⟨rfl, hb2⟩; have i0 := keep (W := w1.drew) hb2 c2; have i1 := keep (W := w1.drew) hb2 y0; have i2 := keep (W := w1.drew) hb2 y1; replace hb2 := Lib.hid hb2))
  all_goals
    replace hB := Lib.hid (hB.out.trans (hb2.out.mono hB.out.size))
    go_wp2_with fail
    go_ret
    exact ⟨rfl, hB.out⟩
end
end Go.Proofs.Ytoknkedmpdcinaa
