/- The law ArenaPlays: its functions write and handles. -/
import Derived.Test.YtoknkedmpdcinaaPlaysH
namespace Go.Proofs.Ytoknkedmpdcinaa
open Go.RowKit
section
variable {w0 w w' : World} {xb : Nat} {P : PBk} {p g f : Nat} {wp : RB} {SLp SLr SL' : List Sl} {told : List (Int × Int)} {K : List (Nat × Obj)} {ρ ρ' : Nat → Nat} {A B C : AR} {aa ca ba : Nat} {toa : Option Addr} {toc : Nat} {ra : Option Addr} {rc : Nat} {rs : List Nat}

/-- Get of arena A, whatever the handle. -/
theorem AX.someA (h : AX w0 w xb P wp SLp SLr told K ρ A B C toa toc ra rc) (hs hg : Int) : Calls Try.prog 18 #[.pointer (some ⟨A.a, 0, none⟩), .agg #[.int .i64 hs, .int .u64 hg]] w fun e w' => (∃ pv b, e = .returned (.tuple #[.pointer pv, .bool b])) ∧ Below w.heap.size w w' := by
  cases ha : aliveB SLp 1 hs hg with
  | false => exact (AStr.gGet_none A [] (paddr P) hs hg w (h.ars.ar 0 _ rfl).g (h.sa.dead ha)).mono fun _ _ ⟨h1, h2⟩ => ⟨⟨_, _, h1⟩, h2⟩
  | true =>
    obtain ⟨e, s, he, h2, h3, _⟩ := h.sa.alive ha
    exact (AStr.gGet_some A [] (paddr P) hs hg e w (h.ars.ar 0 _ rfl).g he h2 h3).mono fun _ _ ⟨h1, h2⟩ => ⟨⟨_, _, h1⟩, h2⟩
theorem AX.noneA (h : AX w0 w xb P wp SLp SLr told K ρ A B C toa toc ra rc) (hs hg : Int) (ha : aliveB SLp 1 hs hg = false) : Calls Try.prog 18 #[.pointer (some ⟨A.a, 0, none⟩), .agg #[.int .i64 hs, .int .u64 hg]] w fun e w' => e = .returned (.tuple #[.pointer none, .bool false]) ∧ Below w.heap.size w w' :=
  AStr.gGet_none A [] (paddr P) hs hg w (h.ars.ar 0 _ rfl).g (h.sa.dead ha)
theorem AX.liveA (h : AX w0 w xb P wp SLp SLr told K ρ A B C toa toc ra rc) (i : Nat) (s : Sl) (hs : SLp[i]? = some s) (hk : s.who = 1) : ∃ e, e ∈ A.L ∧ e.slot = i ∧ Calls Try.prog 18 #[.pointer (some ⟨A.a, 0, none⟩), .agg #[.int .i64 i, .int .u64 s.gen]] w fun z w' => z = .returned (.tuple #[.pointer (some ⟨e.blk, 1, none⟩), .bool true]) ∧ Below w.heap.size w w' := by
  obtain ⟨e, s', he, h2, h3, _⟩ := h.sa.alive (aliveB_of hs hk)
  exact ⟨e, he, by omega, AStr.gGet_some A [] (paddr P) i s.gen e w (h.ars.ar 0 _ rfl).g he h2 h3⟩

/-- Get of arena B, whatever the handle. -/
theorem AX.someB (h : AX w0 w xb P wp SLp SLr told K ρ A B C toa toc ra rc) (hs hg : Int) : Calls Try.prog 58 #[.pointer (some ⟨B.a, 0, none⟩), .agg #[.int .i64 hs, .int .u64 hg]] w fun e w' => (∃ pv b, e = .returned (.tuple #[.pointer pv, .bool b])) ∧ Below w.heap.size w w' := by
  cases ha : aliveB SLp 2 hs hg with
  | false => exact (AThing.gGet_none B [] (paddr P) hs hg w (h.ars.ar 1 _ rfl).g (h.sb.dead ha)).mono fun _ _ ⟨h1, h2⟩ => ⟨⟨_, _, h1⟩, h2⟩
  | true =>
    obtain ⟨e, s, he, h2, h3, _⟩ := h.sb.alive ha
    exact (AThing.gGet_some B [] (paddr P) hs hg e w (h.ars.ar 1 _ rfl).g he h2 h3).mono fun _ _ ⟨h1, h2⟩ => ⟨⟨_, _, h1⟩, h2⟩
theorem AX.noneB (h : AX w0 w xb P wp SLp SLr told K ρ A B C toa toc ra rc) (hs hg : Int) (ha : aliveB SLp 2 hs hg = false) : Calls Try.prog 58 #[.pointer (some ⟨B.a, 0, none⟩), .agg #[.int .i64 hs, .int .u64 hg]] w fun e w' => e = .returned (.tuple #[.pointer none, .bool false]) ∧ Below w.heap.size w w' :=
  AThing.gGet_none B [] (paddr P) hs hg w (h.ars.ar 1 _ rfl).g (h.sb.dead ha)
theorem AX.liveB (h : AX w0 w xb P wp SLp SLr told K ρ A B C toa toc ra rc) (i : Nat) (s : Sl) (hs : SLp[i]? = some s) (hk : s.who = 2) : ∃ e, e ∈ B.L ∧ e.slot = i ∧ Calls Try.prog 58 #[.pointer (some ⟨B.a, 0, none⟩), .agg #[.int .i64 i, .int .u64 s.gen]] w fun z w' => z = .returned (.tuple #[.pointer (some ⟨e.blk, 1, none⟩), .bool true]) ∧ Below w.heap.size w w' := by
  obtain ⟨e, s', he, h2, h3, _⟩ := h.sb.alive (aliveB_of hs hk)
  exact ⟨e, he, by omega, AThing.gGet_some B [] (paddr P) i s.gen e w (h.ars.ar 1 _ rfl).g he h2 h3⟩

/-- Get of arena C, whatever the handle. -/
theorem AX.someC (h : AX w0 w xb P wp SLp SLr told K ρ A B C toa toc ra rc) (hs hg : Int) : Calls Try.prog 18 #[.pointer (some ⟨C.a, 0, none⟩), .agg #[.int .i64 hs, .int .u64 hg]] w fun e w' => (∃ pv b, e = .returned (.tuple #[.pointer pv, .bool b])) ∧ Below w.heap.size w w' := by
  cases ha : aliveB SLp 3 hs hg with
  | false => exact (AStr.gGet_none C [] (paddr P) hs hg w (h.ars.ar 2 _ rfl).g (h.sc.dead ha)).mono fun _ _ ⟨h1, h2⟩ => ⟨⟨_, _, h1⟩, h2⟩
  | true =>
    obtain ⟨e, s, he, h2, h3, _⟩ := h.sc.alive ha
    exact (AStr.gGet_some C [] (paddr P) hs hg e w (h.ars.ar 2 _ rfl).g he h2 h3).mono fun _ _ ⟨h1, h2⟩ => ⟨⟨_, _, h1⟩, h2⟩
theorem AX.noneC (h : AX w0 w xb P wp SLp SLr told K ρ A B C toa toc ra rc) (hs hg : Int) (ha : aliveB SLp 3 hs hg = false) : Calls Try.prog 18 #[.pointer (some ⟨C.a, 0, none⟩), .agg #[.int .i64 hs, .int .u64 hg]] w fun e w' => e = .returned (.tuple #[.pointer none, .bool false]) ∧ Below w.heap.size w w' :=
  AStr.gGet_none C [] (paddr P) hs hg w (h.ars.ar 2 _ rfl).g (h.sc.dead ha)
theorem AX.liveC (h : AX w0 w xb P wp SLp SLr told K ρ A B C toa toc ra rc) (i : Nat) (s : Sl) (hs : SLp[i]? = some s) (hk : s.who = 3) : ∃ e, e ∈ C.L ∧ e.slot = i ∧ Calls Try.prog 18 #[.pointer (some ⟨C.a, 0, none⟩), .agg #[.int .i64 i, .int .u64 s.gen]] w fun z w' => z = .returned (.tuple #[.pointer (some ⟨e.blk, 1, none⟩), .bool true]) ∧ Below w.heap.size w w' := by
  obtain ⟨e, s', he, h2, h3, _⟩ := h.sc.alive (aliveB_of hs hk)
  exact ⟨e, he, by omega, AStr.gGet_some C [] (paddr P) i s.gen e w (h.ars.ar 2 _ rfl).g he h2 h3⟩

set_option maxRecDepth 100000 in
set_option maxHeartbeats 2000000 in
theorem writeA_alive (h : AX w0 w xb P wp SLp SLr told K ρ A B C toa toc ra rc) (i : Nat) (s : Sl) (y : ByteArray) (hs : SLp[i]? = some s) (hk : s.who = 1) :
    Calls Try.prog 47 #[.pointer (some ⟨xb, 0, none⟩), .int .i64 1, .agg #[.int .i64 i, .int .u64 s.gen], .string y] w fun e w' => e = .returned (.tuple #[]) ∧ AW w0 w' xb P wp (SLp.set i ⟨s.gen, s.who, y⟩) SLr told K := by
  obtain ⟨w1, hw1⟩ : ∃ w1, w1 = w.alloc (.cells #[.int .i64 i, .int .u64 s.gen] 40) := ⟨_, rfl⟩
  have hx0 : w1.heap[w.heap.size]? = some (.cells #[.int .i64 i, .int .u64 s.gen] 40) := by rw [hw1]; exact heap_alloc_new _ _
  have hXw1 : AX w0 w1 xb P wp SLp SLr told K (mark ρ w.heap.size 9) A B C toa toc ra rc := by rw [hw1]; exact h.alloc9 _
  replace hXw1 := Lib.hid hXw1
  have z0 : w1.cell? ⟨w.heap.size, 0, none⟩ = some (.int .i64 i) := by rw [cell_of_heap hx0]; rfl
  have z1 : w1.cell? ⟨w.heap.size, 1, none⟩ = some (.int .u64 s.gen) := by rw [cell_of_heap hx0]; rfl
  have yl := heap_lt hx0
  replace hw1 := Lib.hid hw1
  clear h hx0
  have hq := hXw1.out.below (Below.refl w1.heap.size w1).drew
  obtain ⟨e, he, hes, hcl⟩ := hq.liveA i s hs hk
  replace hcl := Lib.hid hcl
  replace hes := Lib.hid hes
  replace he := Lib.hid he
  replace hs := Lib.hid hs
  replace hk := Lib.hid hk
  have cx := hXw1.out.xc.c1
  have xl := hXw1.out.xc.lt
  replace hq := Lib.hid hq
  go_enter Try.func47, Try.ntmps47
  go_wp2_with fail
  rw [← hw1.out]
  go_region_held3 (fun w' => w'.cell? ⟨xb, 1, none⟩ = some (.pointer (some ⟨A.a, 0, none⟩)) ∧ w'.cell? ⟨w.heap.size, 0, none⟩ = some (.int .i64 i) ∧ w'.cell? ⟨w.heap.size, 1, none⟩ = some (.int .u64 s.gen)) (first | exact ⟨i0, i1, i2⟩ | go_keep) (first
    | (go_at_call 18; refine hcl.out.mono ?_; rintro z wg0 ⟨rfl, hb2⟩; have i0 := keep (W := w1.drew) hb2 cx; have i1 := keep (W := w1.drew) hb2 z0; have i2 := keep (W := w1.drew) hb2 z1; have hXwg0 := Lib.hid (hq.out.below hb2); clear hb2))
  all_goals
    clear hq hcl cx z0 z1
    have z0 := i1
    have z1 := i2
    clear i0 i1 i2
    have hE := (hXwg0.out.ars.ar 0 _ rfl).g.2.2.2.2.2 e he.out
    have hgen : (w.heap.size ≠ e.blk) := fun hh => by
      have h1 := ((hXwg0.out.ars.ar 0 _ rfl).th e he.out).1
      rw [← hh, mark_self] at h1
      omega
    obtain ⟨x0, hct⟩ : ∃ x0, e.xs = [.string x0] := by
      obtain ⟨s', _, _, _, hct⟩ := hXwg0.out.sa.fw e he.out
      exact ⟨_, hct⟩
    rw [hct] at hE
    have hu : Upd [e.blk] wg0 (wg0.setCell ⟨e.blk, 1, none⟩ (.string y)) := (Upd.refl _ _).setCell (p := ⟨e.blk, 1, none⟩) (by simp) _
    have hb := heap_set_same hE.2 1 (.string y)
    have hXs := hXwg0.out.wrA (y := y) he.out (by rw [hes.out]; exact hs.out) hk.out hu (by exact hb)
    have e1 : wg0.cell? ⟨e.blk, 1, none⟩ = some (.string x0) := by rw [cell_of_heap hE.2]; rfl
    have ef : wg0.frozen? ⟨e.blk, 1, none⟩ = false := frozen_of_heap hE.2 _
    have el := heap_lt hE.2
    have t0 := hu.cell z0 (by simpa using hgen)
    have t1 := hu.cell z1 (by simpa using hgen)
    rw [hes.out] at hXs
    replace hXs := Lib.hid hXs
    clear hE hct hu hb hgen hXwg0
    generalize e.blk = eb at *
    go_upto_region 4 with fail
    obtain ⟨ws, hws⟩ : ∃ ws, ws = wg0.setCell ⟨eb, 1, none⟩ (.string y) := ⟨_, rfl⟩
    rw [← hws] at t0 t1 hXs ⊢
    clear hws e1 ef el z0 z1
    have z0 := t0
    have z1 := t1
    clear t0 t1
    have hq := hXs.out.below (Below.refl ws.heap.size ws).drew
    have hcl := Lib.hid (hq.someB i s.gen)
    have cx := hXs.out.xc.c3
    have xl := hXs.out.xc.lt
    replace hq := Lib.hid hq
    go_wp2_with fail
    go_region_held3 (fun w' => w'.cell? ⟨xb, 3, none⟩ = some (.pointer (some ⟨B.a, 0, none⟩)) ∧ w'.cell? ⟨w.heap.size, 0, none⟩ = some (.int .i64 i) ∧ w'.cell? ⟨w.heap.size, 1, none⟩ = some (.int .u64 s.gen)) (first | exact ⟨i0, i1, i2⟩ | go_keep) (first
      | (go_at_call 58; refine hcl.out.mono ?_; rintro z wg1 ⟨⟨pv, bv, rfl⟩, hb2⟩; have i0 := keep (W := ws.drew) hb2 cx; have i1 := keep (W := ws.drew) hb2 z0; have i2 := keep (W := ws.drew) hb2 z1; have hXwg1 := Lib.hid (hq.out.below hb2); clear hb2))
    all_goals
      clear hq hcl cx z0 z1
      have z0 := i1
      have z1 := i2
      clear i0 i1 i2
      have hq := hXwg1.out.below (Below.refl wg1.heap.size wg1).drew
      have hcl := Lib.hid (hq.someC i s.gen)
      have cx := hXwg1.out.xc.c2
      have xl := hXwg1.out.xc.lt
      replace hq := Lib.hid hq
      go_wp2_with fail
      go_region_held3 (fun w' => w'.cell? ⟨xb, 2, none⟩ = some (.pointer (some ⟨C.a, 0, none⟩)) ∧ w'.cell? ⟨w.heap.size, 0, none⟩ = some (.int .i64 i) ∧ w'.cell? ⟨w.heap.size, 1, none⟩ = some (.int .u64 s.gen)) (first | exact ⟨i0, i1, i2⟩ | go_keep) (first
        | (go_at_call 18; refine hcl.out.mono ?_; rintro z wg2 ⟨⟨pv, bv, rfl⟩, hb2⟩; have i0 := keep (W := wg1.drew) hb2 cx; have i1 := keep (W := wg1.drew) hb2 z0; have i2 := keep (W := wg1.drew) hb2 z1; have hXwg2 := Lib.hid (hq.out.below hb2); clear hb2))
      all_goals
        clear hq hcl cx z0 z1
        have z0 := i1
        have z1 := i2
        clear i0 i1 i2
        go_wp2_with fail
        go_end0
        exact ⟨rfl, hXwg2.out.aw⟩

set_option maxRecDepth 100000 in
set_option maxHeartbeats 2000000 in
theorem writeA_dead (h : AX w0 w xb P wp SLp SLr told K ρ A B C toa toc ra rc) (hs hg : Int) (y : ByteArray) (ha : aliveB SLp 1 hs hg = false) :
    Calls Try.prog 47 #[.pointer (some ⟨xb, 0, none⟩), .int .i64 1, .agg #[.int .i64 hs, .int .u64 hg], .string y] w fun e w' => e = .returned (.tuple #[]) ∧ AW w0 w' xb P wp SLp SLr told K := by
  obtain ⟨w1, hw1⟩ : ∃ w1, w1 = w.alloc (.cells #[.int .i64 hs, .int .u64 hg] 40) := ⟨_, rfl⟩
  have hx0 : w1.heap[w.heap.size]? = some (.cells #[.int .i64 hs, .int .u64 hg] 40) := by rw [hw1]; exact heap_alloc_new _ _
  have hXw1 : AX w0 w1 xb P wp SLp SLr told K (mark ρ w.heap.size 9) A B C toa toc ra rc := by rw [hw1]; exact h.alloc9 _
  replace hXw1 := Lib.hid hXw1
  have z0 : w1.cell? ⟨w.heap.size, 0, none⟩ = some (.int .i64 hs) := by rw [cell_of_heap hx0]; rfl
  have z1 : w1.cell? ⟨w.heap.size, 1, none⟩ = some (.int .u64 hg) := by rw [cell_of_heap hx0]; rfl
  have yl := heap_lt hx0
  replace hw1 := Lib.hid hw1
  clear h hx0
  have hq := hXw1.out.below (Below.refl w1.heap.size w1).drew
  have hcl := Lib.hid (hq.noneA hs hg ha)
  have cx := hXw1.out.xc.c1
  have xl := hXw1.out.xc.lt
  replace hq := Lib.hid hq
  go_enter Try.func47, Try.ntmps47
  go_wp2_with fail
  rw [← hw1.out]
  go_region_held3 (fun w' => w'.cell? ⟨xb, 1, none⟩ = some (.pointer (some ⟨A.a, 0, none⟩)) ∧ w'.cell? ⟨w.heap.size, 0, none⟩ = some (.int .i64 hs) ∧ w'.cell? ⟨w.heap.size, 1, none⟩ = some (.int .u64 hg)) (first | exact ⟨i0, i1, i2⟩ | go_keep) (first
    | (go_at_call 18; refine hcl.out.mono ?_; rintro z wg0 ⟨rfl, hb2⟩; have i0 := keep (W := w1.drew) hb2 cx; have i1 := keep (W := w1.drew) hb2 z0; have i2 := keep (W := w1.drew) hb2 z1; have hXwg0 := Lib.hid (hq.out.below hb2); clear hb2))
  all_goals
    clear hq hcl cx z0 z1
    have z0 := i1
    have z1 := i2
    clear i0 i1 i2
    have hq := hXwg0.out.below (Below.refl wg0.heap.size wg0).drew
    have hcl := Lib.hid (hq.someB hs hg)
    have cx := hXwg0.out.xc.c3
    have xl := hXwg0.out.xc.lt
    replace hq := Lib.hid hq
    go_wp2_with fail
    go_region_held3 (fun w' => w'.cell? ⟨xb, 3, none⟩ = some (.pointer (some ⟨B.a, 0, none⟩)) ∧ w'.cell? ⟨w.heap.size, 0, none⟩ = some (.int .i64 hs) ∧ w'.cell? ⟨w.heap.size, 1, none⟩ = some (.int .u64 hg)) (first | exact ⟨i0, i1, i2⟩ | go_keep) (first
      | (go_at_call 58; refine hcl.out.mono ?_; rintro z wg1 ⟨⟨pv, bv, rfl⟩, hb2⟩; have i0 := keep (W := wg0.drew) hb2 cx; have i1 := keep (W := wg0.drew) hb2 z0; have i2 := keep (W := wg0.drew) hb2 z1; have hXwg1 := Lib.hid (hq.out.below hb2); clear hb2))
    all_goals
      clear hq hcl cx z0 z1
      have z0 := i1
      have z1 := i2
      clear i0 i1 i2
      have hq := hXwg1.out.below (Below.refl wg1.heap.size wg1).drew
      have hcl := Lib.hid (hq.someC hs hg)
      have cx := hXwg1.out.xc.c2
      have xl := hXwg1.out.xc.lt
      replace hq := Lib.hid hq
      go_wp2_with fail
      go_region_held3 (fun w' => w'.cell? ⟨xb, 2, none⟩ = some (.pointer (some ⟨C.a, 0, none⟩)) ∧ w'.cell? ⟨w.heap.size, 0, none⟩ = some (.int .i64 hs) ∧ w'.cell? ⟨w.heap.size, 1, none⟩ = some (.int .u64 hg)) (first | exact ⟨i0, i1, i2⟩ | go_keep) (first
        | (go_at_call 18; refine hcl.out.mono ?_; rintro z wg2 ⟨⟨pv, bv, rfl⟩, hb2⟩; have i0 := keep (W := wg1.drew) hb2 cx; have i1 := keep (W := wg1.drew) hb2 z0; have i2 := keep (W := wg1.drew) hb2 z1; have hXwg2 := Lib.hid (hq.out.below hb2); clear hb2))
      all_goals
        clear hq hcl cx z0 z1
        have z0 := i1
        have z1 := i2
        clear i0 i1 i2
        go_wp2_with fail
        go_end0
        exact ⟨rfl, hXwg2.out.aw⟩

set_option maxRecDepth 100000 in
set_option maxHeartbeats 2000000 in
theorem writeB_alive (h : AX w0 w xb P wp SLp SLr told K ρ A B C toa toc ra rc) (i : Nat) (s : Sl) (y : ByteArray) (hs : SLp[i]? = some s) (hk : s.who = 2) :
    Calls Try.prog 47 #[.pointer (some ⟨xb, 0, none⟩), .int .i64 2, .agg #[.int .i64 i, .int .u64 s.gen], .string y] w fun e w' => e = .returned (.tuple #[]) ∧ AW w0 w' xb P wp (SLp.set i ⟨s.gen, s.who, y⟩) SLr told K := by
  obtain ⟨w1, hw1⟩ : ∃ w1, w1 = w.alloc (.cells #[.int .i64 i, .int .u64 s.gen] 40) := ⟨_, rfl⟩
  have hx0 : w1.heap[w.heap.size]? = some (.cells #[.int .i64 i, .int .u64 s.gen] 40) := by rw [hw1]; exact heap_alloc_new _ _
  have hXw1 : AX w0 w1 xb P wp SLp SLr told K (mark ρ w.heap.size 9) A B C toa toc ra rc := by rw [hw1]; exact h.alloc9 _
  replace hXw1 := Lib.hid hXw1
  have z0 : w1.cell? ⟨w.heap.size, 0, none⟩ = some (.int .i64 i) := by rw [cell_of_heap hx0]; rfl
  have z1 : w1.cell? ⟨w.heap.size, 1, none⟩ = some (.int .u64 s.gen) := by rw [cell_of_heap hx0]; rfl
  have yl := heap_lt hx0
  replace hw1 := Lib.hid hw1
  clear h hx0
  have hq := hXw1.out.below (Below.refl w1.heap.size w1).drew
  have hcl := Lib.hid (hq.someA i s.gen)
  have cx := hXw1.out.xc.c1
  have xl := hXw1.out.xc.lt
  replace hq := Lib.hid hq
  go_enter Try.func47, Try.ntmps47
  go_wp2_with fail
  rw [← hw1.out]
  go_region_held3 (fun w' => w'.cell? ⟨xb, 1, none⟩ = some (.pointer (some ⟨A.a, 0, none⟩)) ∧ w'.cell? ⟨w.heap.size, 0, none⟩ = some (.int .i64 i) ∧ w'.cell? ⟨w.heap.size, 1, none⟩ = some (.int .u64 s.gen)) (first | exact ⟨i0, i1, i2⟩ | go_keep) (first
    | (go_at_call 18; refine hcl.out.mono ?_; rintro z wg0 ⟨⟨pv, bv, rfl⟩, hb2⟩; have i0 := keep (W := w1.drew) hb2 cx; have i1 := keep (W := w1.drew) hb2 z0; have i2 := keep (W := w1.drew) hb2 z1; have hXwg0 := Lib.hid (hq.out.below hb2); clear hb2))
  all_goals
    clear hq hcl cx z0 z1
    have z0 := i1
    have z1 := i2
    clear i0 i1 i2
    have hq := hXwg0.out.below (Below.refl wg0.heap.size wg0).drew
    obtain ⟨e, he, hes, hcl⟩ := hq.liveB i s hs hk
    replace hcl := Lib.hid hcl
    replace hes := Lib.hid hes
    replace he := Lib.hid he
    replace hs := Lib.hid hs
    replace hk := Lib.hid hk
    have cx := hXwg0.out.xc.c3
    have xl := hXwg0.out.xc.lt
    replace hq := Lib.hid hq
    go_wp2_with fail
    go_region_held3 (fun w' => w'.cell? ⟨xb, 3, none⟩ = some (.pointer (some ⟨B.a, 0, none⟩)) ∧ w'.cell? ⟨w.heap.size, 0, none⟩ = some (.int .i64 i) ∧ w'.cell? ⟨w.heap.size, 1, none⟩ = some (.int .u64 s.gen)) (first | exact ⟨i0, i1, i2⟩ | go_keep) (first
      | (go_at_call 58; refine hcl.out.mono ?_; rintro z wg1 ⟨rfl, hb2⟩; have i0 := keep (W := wg0.drew) hb2 cx; have i1 := keep (W := wg0.drew) hb2 z0; have i2 := keep (W := wg0.drew) hb2 z1; have hXwg1 := Lib.hid (hq.out.below hb2); clear hb2))
    all_goals
      clear hq hcl cx z0 z1
      have z0 := i1
      have z1 := i2
      clear i0 i1 i2
      have hE := (hXwg1.out.ars.ar 1 _ rfl).g.2.2.2.2.2 e he.out
      have hgen : (w.heap.size ≠ e.blk) := fun hh => by
        have h1 := ((hXwg1.out.ars.ar 1 _ rfl).th e he.out).1
        rw [← hh, mark_self] at h1
        omega
      obtain ⟨x0, lb0, hct⟩ : ∃ x0 lb0, e.xs = [.slice (some ⟨lb0, 0, none⟩) 1 1] ∧ x0 = lb0 := by
        obtain ⟨s', _, _, _, lb0, hct, _⟩ := hXwg1.out.sb.fw e he.out
        exact ⟨lb0, lb0, hct, rfl⟩
      rw [hct.1] at hE
      obtain ⟨wl, hwl⟩ : ∃ wl, wl = wg1.alloc (.cells #[.string y] 9) := ⟨_, rfl⟩
      have hBl : Below wg1.heap.size wg1 wl := by rw [hwl]; exact (Below.refl _ _).alloc (Nat.le_refl _) _
      have hXl : AX w0 wl xb P wp SLp SLr told K (mark (mark ρ w.heap.size 9) wg1.heap.size 7) A B C toa toc ra rc := by rw [hwl]; exact hXwg1.out.alloc7 _
      have hl1 : mark (mark ρ w.heap.size 9) wg1.heap.size 7 wg1.heap.size = 7 := mark_self
      have hl2 : wl.heap[wg1.heap.size]? = some (.cells #[.string y] 9) := by rw [hwl]; exact heap_alloc_new _ _
      have hEl := Below.heap' hBl hE.2
      have hu : Upd [e.blk] wl (wl.setCell ⟨e.blk, 1, none⟩ (.slice (some ⟨wg1.heap.size, 0, none⟩) 1 1)) := (Upd.refl _ _).setCell (p := ⟨e.blk, 1, none⟩) (by simp) _
      have hb := heap_set_same hEl 1 (.slice (some ⟨wg1.heap.size, 0, none⟩) 1 1)
      have hXs := hXl.wrB (y := y) hl1 hl2 he.out (by rw [hes.out]; exact hs.out) hk.out hu (by exact hb)
      have e1 : wg1.cell? ⟨e.blk, 1, none⟩ = some (.slice (some ⟨lb0, 0, none⟩) 1 1) := by rw [cell_of_heap hE.2]; rfl
      have ef : wg1.frozen? ⟨e.blk, 1, none⟩ = false := frozen_of_heap hE.2 _
      have el := heap_lt hE.2
      have t0 := hu.cell (keep hBl z0) (by simpa using hgen)
      have t1 := hu.cell (keep hBl z1) (by simpa using hgen)
      rw [hes.out] at hXs
      replace hXs := Lib.hid hXs
      replace hwl := Lib.hid hwl
      clear hE hct hu hb hgen hXwg1 hEl hl1 hl2 hXl hBl
      generalize e.blk = eb at *
      go_upto_region 7 with fail
      have hcomm : (wg1.setCell ⟨eb, 1, none⟩ (.slice (some ⟨wg1.heap.size, 0, none⟩) 1 1)).alloc (.cells #[.string y] 9) = wl.setCell ⟨eb, 1, none⟩ (.slice (some ⟨wg1.heap.size, 0, none⟩) 1 1) := by rw [hwl.out]; exact (World.setCell_alloc_past _ _ _ _ el).symm
      try rw [hcomm]
      obtain ⟨ws, hws⟩ : ∃ ws, ws = wl.setCell ⟨eb, 1, none⟩ (.slice (some ⟨wg1.heap.size, 0, none⟩) 1 1) := ⟨_, rfl⟩
      rw [← hws] at t0 t1 hXs ⊢
      clear hws e1 ef el z0 z1 hcomm
      have z0 := t0
      have z1 := t1
      clear t0 t1
      have hq := hXs.out.below (Below.refl ws.heap.size ws).drew
      have hcl := Lib.hid (hq.someC i s.gen)
      have cx := hXs.out.xc.c2
      have xl := hXs.out.xc.lt
      replace hq := Lib.hid hq
      go_wp2_with fail
      go_region_held3 (fun w' => w'.cell? ⟨xb, 2, none⟩ = some (.pointer (some ⟨C.a, 0, none⟩)) ∧ w'.cell? ⟨w.heap.size, 0, none⟩ = some (.int .i64 i) ∧ w'.cell? ⟨w.heap.size, 1, none⟩ = some (.int .u64 s.gen)) (first | exact ⟨i0, i1, i2⟩ | go_keep) (first
        | (go_at_call 18; refine hcl.out.mono ?_; rintro z wg2 ⟨⟨pv, bv, rfl⟩, hb2⟩; have i0 := keep (W := ws.drew) hb2 cx; have i1 := keep (W := ws.drew) hb2 z0; have i2 := keep (W := ws.drew) hb2 z1; have hXwg2 := Lib.hid (hq.out.below hb2); clear hb2))
      all_goals
        clear hq hcl cx z0 z1
        have z0 := i1
        have z1 := i2
        clear i0 i1 i2
        go_wp2_with fail
        go_end0
        exact ⟨rfl, hXwg2.out.aw⟩

set_option maxRecDepth 100000 in
set_option maxHeartbeats 2000000 in
theorem writeB_dead (h : AX w0 w xb P wp SLp SLr told K ρ A B C toa toc ra rc) (hs hg : Int) (y : ByteArray) (ha : aliveB SLp 2 hs hg = false) :
    Calls Try.prog 47 #[.pointer (some ⟨xb, 0, none⟩), .int .i64 2, .agg #[.int .i64 hs, .int .u64 hg], .string y] w fun e w' => e = .returned (.tuple #[]) ∧ AW w0 w' xb P wp SLp SLr told K := by
  obtain ⟨w1, hw1⟩ : ∃ w1, w1 = w.alloc (.cells #[.int .i64 hs, .int .u64 hg] 40) := ⟨_, rfl⟩
  have hx0 : w1.heap[w.heap.size]? = some (.cells #[.int .i64 hs, .int .u64 hg] 40) := by rw [hw1]; exact heap_alloc_new _ _
  have hXw1 : AX w0 w1 xb P wp SLp SLr told K (mark ρ w.heap.size 9) A B C toa toc ra rc := by rw [hw1]; exact h.alloc9 _
  replace hXw1 := Lib.hid hXw1
  have z0 : w1.cell? ⟨w.heap.size, 0, none⟩ = some (.int .i64 hs) := by rw [cell_of_heap hx0]; rfl
  have z1 : w1.cell? ⟨w.heap.size, 1, none⟩ = some (.int .u64 hg) := by rw [cell_of_heap hx0]; rfl
  have yl := heap_lt hx0
  replace hw1 := Lib.hid hw1
  clear h hx0
  have hq := hXw1.out.below (Below.refl w1.heap.size w1).drew
  have hcl := Lib.hid (hq.someA hs hg)
  have cx := hXw1.out.xc.c1
  have xl := hXw1.out.xc.lt
  replace hq := Lib.hid hq
  go_enter Try.func47, Try.ntmps47
  go_wp2_with fail
  rw [← hw1.out]
  go_region_held3 (fun w' => w'.cell? ⟨xb, 1, none⟩ = some (.pointer (some ⟨A.a, 0, none⟩)) ∧ w'.cell? ⟨w.heap.size, 0, none⟩ = some (.int .i64 hs) ∧ w'.cell? ⟨w.heap.size, 1, none⟩ = some (.int .u64 hg)) (first | exact ⟨i0, i1, i2⟩ | go_keep) (first
    | (go_at_call 18; refine hcl.out.mono ?_; rintro z wg0 ⟨⟨pv, bv, rfl⟩, hb2⟩; have i0 := keep (W := w1.drew) hb2 cx; have i1 := keep (W := w1.drew) hb2 z0; have i2 := keep (W := w1.drew) hb2 z1; have hXwg0 := Lib.hid (hq.out.below hb2); clear hb2))
  all_goals
    clear hq hcl cx z0 z1
    have z0 := i1
    have z1 := i2
    clear i0 i1 i2
    have hq := hXwg0.out.below (Below.refl wg0.heap.size wg0).drew
    have hcl := Lib.hid (hq.noneB hs hg ha)
    have cx := hXwg0.out.xc.c3
    have xl := hXwg0.out.xc.lt
    replace hq := Lib.hid hq
    go_wp2_with fail
    go_region_held3 (fun w' => w'.cell? ⟨xb, 3, none⟩ = some (.pointer (some ⟨B.a, 0, none⟩)) ∧ w'.cell? ⟨w.heap.size, 0, none⟩ = some (.int .i64 hs) ∧ w'.cell? ⟨w.heap.size, 1, none⟩ = some (.int .u64 hg)) (first | exact ⟨i0, i1, i2⟩ | go_keep) (first
      | (go_at_call 58; refine hcl.out.mono ?_; rintro z wg1 ⟨rfl, hb2⟩; have i0 := keep (W := wg0.drew) hb2 cx; have i1 := keep (W := wg0.drew) hb2 z0; have i2 := keep (W := wg0.drew) hb2 z1; have hXwg1 := Lib.hid (hq.out.below hb2); clear hb2))
    all_goals
      clear hq hcl cx z0 z1
      have z0 := i1
      have z1 := i2
      clear i0 i1 i2
      have hq := hXwg1.out.below (Below.refl wg1.heap.size wg1).drew
      have hcl := Lib.hid (hq.someC hs hg)
      have cx := hXwg1.out.xc.c2
      have xl := hXwg1.out.xc.lt
      replace hq := Lib.hid hq
      go_wp2_with fail
      go_region_held3 (fun w' => w'.cell? ⟨xb, 2, none⟩ = some (.pointer (some ⟨C.a, 0, none⟩)) ∧ w'.cell? ⟨w.heap.size, 0, none⟩ = some (.int .i64 hs) ∧ w'.cell? ⟨w.heap.size, 1, none⟩ = some (.int .u64 hg)) (first | exact ⟨i0, i1, i2⟩ | go_keep) (first
        | (go_at_call 18; refine hcl.out.mono ?_; rintro z wg2 ⟨⟨pv, bv, rfl⟩, hb2⟩; have i0 := keep (W := wg1.drew) hb2 cx; have i1 := keep (W := wg1.drew) hb2 z0; have i2 := keep (W := wg1.drew) hb2 z1; have hXwg2 := Lib.hid (hq.out.below hb2); clear hb2))
      all_goals
        clear hq hcl cx z0 z1
        have z0 := i1
        have z1 := i2
        clear i0 i1 i2
        go_wp2_with fail
        go_end0
        exact ⟨rfl, hXwg2.out.aw⟩

set_option maxRecDepth 100000 in
set_option maxHeartbeats 2000000 in
theorem writeC_alive (h : AX w0 w xb P wp SLp SLr told K ρ A B C toa toc ra rc) (i : Nat) (s : Sl) (y : ByteArray) (hs : SLp[i]? = some s) (hk : s.who = 3) :
    Calls Try.prog 47 #[.pointer (some ⟨xb, 0, none⟩), .int .i64 3, .agg #[.int .i64 i, .int .u64 s.gen], .string y] w fun e w' => e = .returned (.tuple #[]) ∧ AW w0 w' xb P wp (SLp.set i ⟨s.gen, s.who, y⟩) SLr told K := by
  obtain ⟨w1, hw1⟩ : ∃ w1, w1 = w.alloc (.cells #[.int .i64 i, .int .u64 s.gen] 40) := ⟨_, rfl⟩
  have hx0 : w1.heap[w.heap.size]? = some (.cells #[.int .i64 i, .int .u64 s.gen] 40) := by rw [hw1]; exact heap_alloc_new _ _
  have hXw1 : AX w0 w1 xb P wp SLp SLr told K (mark ρ w.heap.size 9) A B C toa toc ra rc := by rw [hw1]; exact h.alloc9 _
  replace hXw1 := Lib.hid hXw1
  have z0 : w1.cell? ⟨w.heap.size, 0, none⟩ = some (.int .i64 i) := by rw [cell_of_heap hx0]; rfl
  have z1 : w1.cell? ⟨w.heap.size, 1, none⟩ = some (.int .u64 s.gen) := by rw [cell_of_heap hx0]; rfl
  have yl := heap_lt hx0
  replace hw1 := Lib.hid hw1
  clear h hx0
  have hq := hXw1.out.below (Below.refl w1.heap.size w1).drew
  have hcl := Lib.hid (hq.someA i s.gen)
  have cx := hXw1.out.xc.c1
  have xl := hXw1.out.xc.lt
  replace hq := Lib.hid hq
  go_enter Try.func47, Try.ntmps47
  go_wp2_with fail
  rw [← hw1.out]
  go_region_held3 (fun w' => w'.cell? ⟨xb, 1, none⟩ = some (.pointer (some ⟨A.a, 0, none⟩)) ∧ w'.cell? ⟨w.heap.size, 0, none⟩ = some (.int .i64 i) ∧ w'.cell? ⟨w.heap.size, 1, none⟩ = some (.int .u64 s.gen)) (first | exact ⟨i0, i1, i2⟩ | go_keep) (first
    | (go_at_call 18; refine hcl.out.mono ?_; rintro z wg0 ⟨⟨pv, bv, rfl⟩, hb2⟩; have i0 := keep (W := w1.drew) hb2 cx; have i1 := keep (W := w1.drew) hb2 z0; have i2 := keep (W := w1.drew) hb2 z1; have hXwg0 := Lib.hid (hq.out.below hb2); clear hb2))
  all_goals
    clear hq hcl cx z0 z1
    have z0 := i1
    have z1 := i2
    clear i0 i1 i2
    have hq := hXwg0.out.below (Below.refl wg0.heap.size wg0).drew
    have hcl := Lib.hid (hq.someB i s.gen)
    have cx := hXwg0.out.xc.c3
    have xl := hXwg0.out.xc.lt
    replace hq := Lib.hid hq
    go_wp2_with fail
    go_region_held3 (fun w' => w'.cell? ⟨xb, 3, none⟩ = some (.pointer (some ⟨B.a, 0, none⟩)) ∧ w'.cell? ⟨w.heap.size, 0, none⟩ = some (.int .i64 i) ∧ w'.cell? ⟨w.heap.size, 1, none⟩ = some (.int .u64 s.gen)) (first | exact ⟨i0, i1, i2⟩ | go_keep) (first
      | (go_at_call 58; refine hcl.out.mono ?_; rintro z wg1 ⟨⟨pv, bv, rfl⟩, hb2⟩; have i0 := keep (W := wg0.drew) hb2 cx; have i1 := keep (W := wg0.drew) hb2 z0; have i2 := keep (W := wg0.drew) hb2 z1; have hXwg1 := Lib.hid (hq.out.below hb2); clear hb2))
    all_goals
      clear hq hcl cx z0 z1
      have z0 := i1
      have z1 := i2
      clear i0 i1 i2
      have hq := hXwg1.out.below (Below.refl wg1.heap.size wg1).drew
      obtain ⟨e, he, hes, hcl⟩ := hq.liveC i s hs hk
      replace hcl := Lib.hid hcl
      replace hes := Lib.hid hes
      replace he := Lib.hid he
      replace hs := Lib.hid hs
      replace hk := Lib.hid hk
      have cx := hXwg1.out.xc.c2
      have xl := hXwg1.out.xc.lt
      replace hq := Lib.hid hq
      go_wp2_with fail
      go_region_held3 (fun w' => w'.cell? ⟨xb, 2, none⟩ = some (.pointer (some ⟨C.a, 0, none⟩)) ∧ w'.cell? ⟨w.heap.size, 0, none⟩ = some (.int .i64 i) ∧ w'.cell? ⟨w.heap.size, 1, none⟩ = some (.int .u64 s.gen)) (first | exact ⟨i0, i1, i2⟩ | go_keep) (first
        | (go_at_call 18; refine hcl.out.mono ?_; rintro z wg2 ⟨rfl, hb2⟩; have i0 := keep (W := wg1.drew) hb2 cx; have i1 := keep (W := wg1.drew) hb2 z0; have i2 := keep (W := wg1.drew) hb2 z1; have hXwg2 := Lib.hid (hq.out.below hb2); clear hb2))
      all_goals
        clear hq hcl cx z0 z1
        have z0 := i1
        have z1 := i2
        clear i0 i1 i2
        have hE := (hXwg2.out.ars.ar 2 _ rfl).g.2.2.2.2.2 e he.out
        have hgen : (w.heap.size ≠ e.blk) := fun hh => by
          have h1 := ((hXwg2.out.ars.ar 2 _ rfl).th e he.out).1
          rw [← hh, mark_self] at h1
          omega
        obtain ⟨x0, hct⟩ : ∃ x0, e.xs = [.string x0] := by
          obtain ⟨s', _, _, _, hct⟩ := hXwg2.out.sc.fw e he.out
          exact ⟨_, hct⟩
        rw [hct] at hE
        have hu : Upd [e.blk] wg2 (wg2.setCell ⟨e.blk, 1, none⟩ (.string y)) := (Upd.refl _ _).setCell (p := ⟨e.blk, 1, none⟩) (by simp) _
        have hb := heap_set_same hE.2 1 (.string y)
        have hXs := hXwg2.out.wrC (y := y) he.out (by rw [hes.out]; exact hs.out) hk.out hu (by exact hb)
        have e1 : wg2.cell? ⟨e.blk, 1, none⟩ = some (.string x0) := by rw [cell_of_heap hE.2]; rfl
        have ef : wg2.frozen? ⟨e.blk, 1, none⟩ = false := frozen_of_heap hE.2 _
        have el := heap_lt hE.2
        have t0 := hu.cell z0 (by simpa using hgen)
        have t1 := hu.cell z1 (by simpa using hgen)
        rw [hes.out] at hXs
        replace hXs := Lib.hid hXs
        clear hE hct hu hb hgen hXwg2
        generalize e.blk = eb at *
        go_wp2_with fail
        go_end0
        exact ⟨rfl, hXs.out.aw⟩

set_option maxRecDepth 100000 in
set_option maxHeartbeats 2000000 in
theorem writeC_dead (h : AX w0 w xb P wp SLp SLr told K ρ A B C toa toc ra rc) (hs hg : Int) (y : ByteArray) (ha : aliveB SLp 3 hs hg = false) :
    Calls Try.prog 47 #[.pointer (some ⟨xb, 0, none⟩), .int .i64 3, .agg #[.int .i64 hs, .int .u64 hg], .string y] w fun e w' => e = .returned (.tuple #[]) ∧ AW w0 w' xb P wp SLp SLr told K := by
  obtain ⟨w1, hw1⟩ : ∃ w1, w1 = w.alloc (.cells #[.int .i64 hs, .int .u64 hg] 40) := ⟨_, rfl⟩
  have hx0 : w1.heap[w.heap.size]? = some (.cells #[.int .i64 hs, .int .u64 hg] 40) := by rw [hw1]; exact heap_alloc_new _ _
  have hXw1 : AX w0 w1 xb P wp SLp SLr told K (mark ρ w.heap.size 9) A B C toa toc ra rc := by rw [hw1]; exact h.alloc9 _
  replace hXw1 := Lib.hid hXw1
  have z0 : w1.cell? ⟨w.heap.size, 0, none⟩ = some (.int .i64 hs) := by rw [cell_of_heap hx0]; rfl
  have z1 : w1.cell? ⟨w.heap.size, 1, none⟩ = some (.int .u64 hg) := by rw [cell_of_heap hx0]; rfl
  have yl := heap_lt hx0
  replace hw1 := Lib.hid hw1
  clear h hx0
  have hq := hXw1.out.below (Below.refl w1.heap.size w1).drew
  have hcl := Lib.hid (hq.someA hs hg)
  have cx := hXw1.out.xc.c1
  have xl := hXw1.out.xc.lt
  replace hq := Lib.hid hq
  go_enter Try.func47, Try.ntmps47
  go_wp2_with fail
  rw [← hw1.out]
  go_region_held3 (fun w' => w'.cell? ⟨xb, 1, none⟩ = some (.pointer (some ⟨A.a, 0, none⟩)) ∧ w'.cell? ⟨w.heap.size, 0, none⟩ = some (.int .i64 hs) ∧ w'.cell? ⟨w.heap.size, 1, none⟩ = some (.int .u64 hg)) (first | exact ⟨i0, i1, i2⟩ | go_keep) (first
    | (go_at_call 18; refine hcl.out.mono ?_; rintro z wg0 ⟨⟨pv, bv, rfl⟩, hb2⟩; have i0 := keep (W := w1.drew) hb2 cx; have i1 := keep (W := w1.drew) hb2 z0; have i2 := keep (W := w1.drew) hb2 z1; have hXwg0 := Lib.hid (hq.out.below hb2); clear hb2))
  all_goals
    clear hq hcl cx z0 z1
    have z0 := i1
    have z1 := i2
    clear i0 i1 i2
    have hq := hXwg0.out.below (Below.refl wg0.heap.size wg0).drew
    have hcl := Lib.hid (hq.someB hs hg)
    have cx := hXwg0.out.xc.c3
    have xl := hXwg0.out.xc.lt
    replace hq := Lib.hid hq
    go_wp2_with fail
    go_region_held3 (fun w' => w'.cell? ⟨xb, 3, none⟩ = some (.pointer (some ⟨B.a, 0, none⟩)) ∧ w'.cell? ⟨w.heap.size, 0, none⟩ = some (.int .i64 hs) ∧ w'.cell? ⟨w.heap.size, 1, none⟩ = some (.int .u64 hg)) (first | exact ⟨i0, i1, i2⟩ | go_keep) (first
      | (go_at_call 58; refine hcl.out.mono ?_; rintro z wg1 ⟨⟨pv, bv, rfl⟩, hb2⟩; have i0 := keep (W := wg0.drew) hb2 cx; have i1 := keep (W := wg0.drew) hb2 z0; have i2 := keep (W := wg0.drew) hb2 z1; have hXwg1 := Lib.hid (hq.out.below hb2); clear hb2))
    all_goals
      clear hq hcl cx z0 z1
      have z0 := i1
      have z1 := i2
      clear i0 i1 i2
      have hq := hXwg1.out.below (Below.refl wg1.heap.size wg1).drew
      have hcl := Lib.hid (hq.noneC hs hg ha)
      have cx := hXwg1.out.xc.c2
      have xl := hXwg1.out.xc.lt
      replace hq := Lib.hid hq
      go_wp2_with fail
      go_region_held3 (fun w' => w'.cell? ⟨xb, 2, none⟩ = some (.pointer (some ⟨C.a, 0, none⟩)) ∧ w'.cell? ⟨w.heap.size, 0, none⟩ = some (.int .i64 hs) ∧ w'.cell? ⟨w.heap.size, 1, none⟩ = some (.int .u64 hg)) (first | exact ⟨i0, i1, i2⟩ | go_keep) (first
        | (go_at_call 18; refine hcl.out.mono ?_; rintro z wg2 ⟨rfl, hb2⟩; have i0 := keep (W := wg1.drew) hb2 cx; have i1 := keep (W := wg1.drew) hb2 z0; have i2 := keep (W := wg1.drew) hb2 z1; have hXwg2 := Lib.hid (hq.out.below hb2); clear hb2))
      all_goals
        clear hq hcl cx z0 z1
        have z0 := i1
        have z1 := i2
        clear i0 i1 i2
        go_wp2_with fail
        go_end0
        exact ⟨rfl, hXwg2.out.aw⟩

set_option maxRecDepth 100000 in
set_option maxHeartbeats 2000000 in
theorem handlesA_any (h : AX w0 w xb P wp SLp SLr told K ρ A B C toa toc ra rc) :
    Calls Try.prog 30 #[.pointer (some ⟨xb, 0, none⟩), .int .i64 1] w fun e w' => ∃ a c, e = .returned (.tuple #[.slice a (handsR 1 SLp).length c, .int .i64 (handsR 1 SLp).length]) ∧ Row w.heap.size 40 2 hcell w' (.slice a (handsR 1 SLp).length c) (handsR 1 SLp) ∧ Below w.heap.size w w' := by
  have hh := h.sa.hands (h.ars.ar 0 _ rfl).g.2.2.2.1
  have hlen : A.L.length = (handsR 1 SLp).length := by rw [← hh]; exact (handsOf_len _).symm
  have hl : A.L.length ≤ 100000 := by
    rw [hlen]
    exact Nat.le_trans (handsR_len _ _) (by have := h.bd.1.1; omega)
  have h1 := h.below (Below.refl w.heap.size w).drew
  have hcl := AStr.aHandles_any A [] (paddr P) _ (h1.ars.ar 0 _ rfl).g (h1.ars.ar 0 _ rfl).bn hl
  have hlv : ∀ w2, Below w.drew.heap.size w.drew w2 → Calls Try.prog 17 #[.pointer (some ⟨A.a, 0, none⟩)] w2 fun e w' => e = .returned (.int .i64 (handsR 1 SLp).length) ∧ Below w2.heap.size w2 w' := fun w2 hb => by
    have := AStr.gLive A [] (paddr P) w2 ((h1.below hb).ars.ar 0 _ rfl).g
    rw [hlen] at this
    exact this
  unfold AStr.HandlesEnd at hcl
  rw [show handsOf A.L = handsR 1 SLp from hh] at hcl
  have c1 := h.xc.c1
  have xl := h.xc.lt
  replace hcl := Lib.hid hcl
  replace hlv := Lib.hid hlv
  clear h h1 hh hlen hl
  generalize handsR 1 SLp = M at *
  go_enter Try.func30, Try.ntmps30
  go_wp2_with fail
  go_region_held3 (fun w' => w'.cell? ⟨xb, 1, none⟩ = some (.pointer (some ⟨A.a, 0, none⟩))) (first | exact i0 | go_keep) (first
    | (go_at_call 32; refine hcl.out.mono ?_; rintro z w2 ⟨av, cv, rfl, hrow, hb2⟩; have i0 := keep (W := w.drew) hb2 c1; have xl2 := block_lt_of_cell i0; replace hrow := Lib.hid hrow; replace hb2 := Lib.hid hb2)
    | (go_at_call 17; refine (hlv.out _ hb2.out).mono ?_; rintro z w3 ⟨rfl, hb3⟩; have i0 := keep hb3 i0; have hrow3 := Lib.hid (hrow.out.below hb3); have hb4 := Lib.hid (hb2.out.trans (hb3.mono hb2.out.size)); clear hb3))
  all_goals
    go_wp2_with fail
    go_ret2
    exact ⟨av, cv, rfl, hrow3.out, (Below.refl w.heap.size w).drew.trans (hb4.out.mono (Nat.le_refl _))⟩

set_option maxRecDepth 100000 in
set_option maxHeartbeats 2000000 in
theorem handlesB_any (h : AX w0 w xb P wp SLp SLr told K ρ A B C toa toc ra rc) :
    Calls Try.prog 30 #[.pointer (some ⟨xb, 0, none⟩), .int .i64 2] w fun e w' => ∃ a c, e = .returned (.tuple #[.slice a (handsR 2 SLp).length c, .int .i64 (handsR 2 SLp).length]) ∧ Row w.heap.size 40 2 hcell w' (.slice a (handsR 2 SLp).length c) (handsR 2 SLp) ∧ Below w.heap.size w w' := by
  have hh := h.sb.hands (h.ars.ar 1 _ rfl).g.2.2.2.1
  have hlen : B.L.length = (handsR 2 SLp).length := by rw [← hh]; exact (handsOf_len _).symm
  have hl : B.L.length ≤ 100000 := by
    rw [hlen]
    exact Nat.le_trans (handsR_len _ _) (by have := h.bd.1.1; omega)
  have h1 := h.below (Below.refl w.heap.size w).drew
  have hcl := AThing.aHandles_any B [] (paddr P) _ (h1.ars.ar 1 _ rfl).g (h1.ars.ar 1 _ rfl).bn hl
  have hlv : ∀ w2, Below w.drew.heap.size w.drew w2 → Calls Try.prog 50 #[.pointer (some ⟨B.a, 0, none⟩)] w2 fun e w' => e = .returned (.int .i64 (handsR 2 SLp).length) ∧ Below w2.heap.size w2 w' := fun w2 hb => by
    have := AThing.gLive B [] (paddr P) w2 ((h1.below hb).ars.ar 1 _ rfl).g
    rw [hlen] at this
    exact this
  unfold AThing.HandlesEnd at hcl
  rw [show handsOf B.L = handsR 2 SLp from hh] at hcl
  have c3 := h.xc.c3
  have xl := h.xc.lt
  replace hcl := Lib.hid hcl
  replace hlv := Lib.hid hlv
  clear h h1 hh hlen hl
  generalize handsR 2 SLp = M at *
  go_enter Try.func30, Try.ntmps30
  go_wp2_with fail
  go_region_held3 (fun w' => w'.cell? ⟨xb, 3, none⟩ = some (.pointer (some ⟨B.a, 0, none⟩))) (first | exact i0 | go_keep) (first
    | (go_at_call 49; refine hcl.out.mono ?_; rintro z w2 ⟨av, cv, rfl, hrow, hb2⟩; have i0 := keep (W := w.drew) hb2 c3; have xl2 := block_lt_of_cell i0; replace hrow := Lib.hid hrow; replace hb2 := Lib.hid hb2)
    | (go_at_call 50; refine (hlv.out _ hb2.out).mono ?_; rintro z w3 ⟨rfl, hb3⟩; have i0 := keep hb3 i0; have hrow3 := Lib.hid (hrow.out.below hb3); have hb4 := Lib.hid (hb2.out.trans (hb3.mono hb2.out.size)); clear hb3))
  all_goals
    go_wp2_with fail
    go_ret2
    exact ⟨av, cv, rfl, hrow3.out, (Below.refl w.heap.size w).drew.trans (hb4.out.mono (Nat.le_refl _))⟩

set_option maxRecDepth 100000 in
set_option maxHeartbeats 2000000 in
theorem handlesC_any (h : AX w0 w xb P wp SLp SLr told K ρ A B C toa toc ra rc) :
    Calls Try.prog 30 #[.pointer (some ⟨xb, 0, none⟩), .int .i64 3] w fun e w' => ∃ a c, e = .returned (.tuple #[.slice a (handsR 3 SLp).length c, .int .i64 (handsR 3 SLp).length]) ∧ Row w.heap.size 40 2 hcell w' (.slice a (handsR 3 SLp).length c) (handsR 3 SLp) ∧ Below w.heap.size w w' := by
  have hh := h.sc.hands (h.ars.ar 2 _ rfl).g.2.2.2.1
  have hlen : C.L.length = (handsR 3 SLp).length := by rw [← hh]; exact (handsOf_len _).symm
  have hl : C.L.length ≤ 100000 := by
    rw [hlen]
    exact Nat.le_trans (handsR_len _ _) (by have := h.bd.1.1; omega)
  have h1 := h.below (Below.refl w.heap.size w).drew
  have hcl := AStr.aHandles_any C [] (paddr P) _ (h1.ars.ar 2 _ rfl).g (h1.ars.ar 2 _ rfl).bn hl
  have hlv : ∀ w2, Below w.drew.heap.size w.drew w2 → Calls Try.prog 17 #[.pointer (some ⟨C.a, 0, none⟩)] w2 fun e w' => e = .returned (.int .i64 (handsR 3 SLp).length) ∧ Below w2.heap.size w2 w' := fun w2 hb => by
    have := AStr.gLive C [] (paddr P) w2 ((h1.below hb).ars.ar 2 _ rfl).g
    rw [hlen] at this
    exact this
  unfold AStr.HandlesEnd at hcl
  rw [show handsOf C.L = handsR 3 SLp from hh] at hcl
  have c2 := h.xc.c2
  have xl := h.xc.lt
  replace hcl := Lib.hid hcl
  replace hlv := Lib.hid hlv
  clear h h1 hh hlen hl
  generalize handsR 3 SLp = M at *
  go_enter Try.func30, Try.ntmps30
  go_wp2_with fail
  go_region_held3 (fun w' => w'.cell? ⟨xb, 2, none⟩ = some (.pointer (some ⟨C.a, 0, none⟩))) (first | exact i0 | go_keep) (first
    | (go_at_call 32; refine hcl.out.mono ?_; rintro z w2 ⟨av, cv, rfl, hrow, hb2⟩; have i0 := keep (W := w.drew) hb2 c2; have xl2 := block_lt_of_cell i0; replace hrow := Lib.hid hrow; replace hb2 := Lib.hid hb2)
    | (go_at_call 17; refine (hlv.out _ hb2.out).mono ?_; rintro z w3 ⟨rfl, hb3⟩; have i0 := keep hb3 i0; have hrow3 := Lib.hid (hrow.out.below hb3); have hb4 := Lib.hid (hb2.out.trans (hb3.mono hb2.out.size)); clear hb3))
  all_goals
    go_wp2_with fail
    go_ret2
    exact ⟨av, cv, rfl, hrow3.out, (Below.refl w.heap.size w).drew.trans (hb4.out.mono (Nat.le_refl _))⟩
end
end Go.Proofs.Ytoknkedmpdcinaa
