/- The law ArenaPlays: its function does. -/
import Derived.Test.YtoknkedmpdcinaaPlaysD
import Derived.IntWalk
import Derived.Deep.CutBlock
namespace Go.Proofs.Ytoknkedmpdcinaa
open Go.RowKit
section
variable {w0 w w' : World} {xb : Nat} {P : PBk} {wp : RB} {SL SLp SLr : List Sl} {told : List (Int × Int)} {K : List (Nat × Obj)}
/-- A block made since, which stays from now on. -/
theorem AW.adopt (h : AW w0 w xb P wp SLp SLr told K) (hb : Below w.heap.size w w') {b : Nat} {o : Obj} (hb1 : w.heap.size ≤ b) (ho : w'.heap[b]? = some o) : AW w0 w' xb P wp SLp SLr told (K ++ [(b, o)]) := by
  obtain ⟨ρ, A, B, C, toa, toc, ra, rc, h⟩ := h
  have hu : RU [] w w' ρ (mark ρ b 8) := (RU.below h.ro hb).mark hb1 (heap_lt ho)
  have hl := h.lb.ru h.ro hu (by simp) (by simp) (by simp) (by simp)
  refine ⟨_, A, B, C, toa, toc, ra, rc, h.ro.step hu (by simp), h.ars.ru hu (by simp), h.sa, h.sb.imp (fun e x hc => hc.ru h.ro hu (by simp)), h.sc, ⟨hl.xr, hl.xblk, hl.tr, hl.trr, hl.rf, fun x hx => ?_⟩, h.bd⟩
  rcases List.mem_append.1 hx with hx | hx
  · exact hl.kp x hx
  · simp at hx; subst hx
    exact ⟨mark_self, ho⟩
theorem set2_other {b q i j o : Nat} {u v x : Value} (h : q ≠ b) (hc : w.cell? ⟨q, o, none⟩ = some x) : ((w.setCell ⟨b, i, none⟩ u).setCell ⟨b, j, none⟩ v).cell? ⟨q, o, none⟩ = some x := by
  rw [World.cell?_of_block (w := w) (by rw [heap_set_other _ _ h, heap_set_other _ _ h])]
  exact hc
/-- A kept block is written by the law. -/
theorem AW.setK {b : Nat} {c : Array Value} {t : TypeId} (h : AW w0 w xb P wp SLp SLr told (K ++ [(b, .cells c t)])) (hb : ∀ y, y ∈ K → y.1 ≠ b) (i : Nat) (u : Value) : AW w0 (w.setCell ⟨b, i, none⟩ u) xb P wp SLp SLr told (K ++ [(b, .cells (c.setIfInBounds i u) t)]) := by
  obtain ⟨ρ, A, B, C, toa, toc, ra, rc, h⟩ := h
  obtain ⟨hb8, hbh⟩ := h.lb.kp (b, .cells c t) (by simp)
  have hs : Upd [b] w (w.setCell ⟨b, i, none⟩ u) := (Upd.refl [b] _).setCell (p := ⟨b, i, none⟩) (by simp) u
  have hu : RU [8] w (w.setCell ⟨b, i, none⟩ u) ρ ρ := RU.upd h.ro hs (fun k hk _ => by simp at hk; subst hk; simp [hb8])
  refine ⟨ρ, A, B, C, toa, toc, ra, rc, h.ro.step hu (by simp), h.ars.ru hu (by simp), h.sa, h.sb.imp (fun e x hc => hc.ru h.ro hu (by simp)), h.sc, ⟨h.lb.xr, hu.heap h.lb.xblk (by rw [h.lb.xr]; simp), hu.row h.lb.tr (fun q hq => by rw [h.lb.trr q hq]; simp), h.lb.trr, h.lb.rf.ru h.ro hu (by simp), fun x hx => ?_⟩, h.bd⟩
  rcases List.mem_append.1 hx with hx | hx
  · have := h.lb.kp x (List.mem_append_left _ hx)
    exact ⟨this.1, hs.heap this.2 (by simp; exact hb x hx)⟩
  · simp at hx; subst hx
    exact ⟨hb8, heap_set_same hbh i u⟩
theorem AW.fresh (h : AW w0 w xb P wp SLp SLr told K) : ∀ y, y ∈ K → y.1 ≠ w.heap.size := fun y hy hh => by
  have := heap_lt (h.box hy)
  omega
/-- The law's struct at hand. -/
structure AO (w : World) (xb : Nat) (P : PBk) (wp : RB) (told : List (Int × Int)) (toa : Option Addr) (toc : Nat) : Prop where
  c0 : w.cell? ⟨xb, 0, none⟩ = some (.pointer (paddr P))
  c4 : w.cell? ⟨xb, 4, none⟩ = some (rptr (wpo wp))
  c5 : w.cell? ⟨xb, 5, none⟩ = some (.slice toa told.length toc)
  lt : xb < w.heap.size
  tr : Row 0 40 2 hcell w (.slice toa told.length toc) told
theorem AW.opens (h : AW w0 w xb P wp SLp SLr told K) : ∃ toa toc, AO w xb P wp told toa toc := by
  obtain ⟨ρ, A, B, C, toa, toc, ra, rc, h⟩ := h
  have := h.xc
  exact ⟨toa, toc, this.c0, this.c4, this.c5, this.lt, h.lb.tr⟩
def DoesEnd (w0 : World) (xb : Nat) (P : PBk) (wp : RB) (SL : List Sl) (told : List (Int × Int)) (K : List (Nat × Obj)) (e : Ending) (w' : World) : Prop :=
  e = .returned (.bool true) ∧ ∃ SL' told', AW w0 w' xb P wp SL' SL' told' K ∧ SL'.length = SL.length ∧ told'.length ≤ told.length + 1
set_option maxRecDepth 100000 in
set_option maxHeartbeats 4000000 in
theorem does_any (h : AW w0 w xb P wp SL SL told K) (d : Int) (inn : Nat) (hin : inn < 256) (x : ByteArray) (hs hg : Int) (ago : Nat) (hago : ago < 256) (hbt : told.length ≤ 300) :
    Calls Try.prog 28 #[.pointer (some ⟨xb, 0, none⟩), .agg #[.int .i64 d, .int .u8 inn, .string x, .int .i64 hs, .int .u64 hg, .int .u8 ago]] w (DoesEnd w0 xb P wp SL told K) := by
  obtain ⟨k, hk⟩ : ∃ k : Nat, k = 1 + inn % 3 := ⟨_, rfl⟩
  have hk3 : 1 ≤ k ∧ k ≤ 3 := by omega
  have hkv : (1 : Int) + (inn : Int) % 3 = (k : Int) := by omega
  obtain ⟨w1, hw1⟩ : ∃ w1, w1 = w.alloc (.cells #[.int .i64 d, .int .u8 inn, .string x, .int .i64 hs, .int .u64 hg, .int .u8 ago] 42) := ⟨_, rfl⟩
  have h1 : AW w0 w1 xb P wp SL SL told (K ++ [(w.heap.size, .cells #[.int .i64 d, .int .u8 inn, .string x, .int .i64 hs, .int .u64 hg, .int .u8 ago] 42)]) := by rw [hw1]; exact h.alloc _
  have hz1 : w1.heap.size = w.heap.size + 1 := by rw [hw1]; simp
  obtain ⟨w2, hw2⟩ : ∃ w2, w2 = w1.alloc (.cells #[.int .i64 hs, .int .u64 hg] 40) := ⟨_, rfl⟩
  have hB2 : Below w1.heap.size w1 w2 := by rw [hw2]; exact (Below.refl _ _).alloc (Nat.le_refl _) _
  have hx2 : w2.heap[w1.heap.size]? = some (.cells #[.int .i64 hs, .int .u64 hg] 40) := by rw [hw2]; exact heap_alloc_new _ _
  have hy2 := (h1.below hB2).box (x := (w.heap.size, .cells #[.int .i64 d, .int .u8 inn, .string x, .int .i64 hs, .int .u64 hg, .int .u8 ago] 42)) (by simp)
  replace hw1 := Lib.hid hw1
  replace hw2 := Lib.hid hw2
  replace hz1 := Lib.hid hz1
  replace hk := Lib.hid hk
  replace hkv := Lib.hid hkv
  replace h1 := Lib.hid h1
  replace hB2 := Lib.hid hB2
  clear h
  go_enter Try.func28, Try.ntmps28
  go_upto_region 3 with fail
  rw [← hw1.out, ← hz1.out, ← hw2.out, hkv.out]
  clear hw2
  have y0 : w2.cell? ⟨w.heap.size, 0, none⟩ = some (.int .i64 d) := by rw [cell_of_heap hy2]; rfl
  have y2 : w2.cell? ⟨w.heap.size, 2, none⟩ = some (.string x) := by rw [cell_of_heap hy2]; rfl
  have y5 : w2.cell? ⟨w.heap.size, 5, none⟩ = some (.int .u8 ago) := by rw [cell_of_heap hy2]; rfl
  have yl := heap_lt hy2
  have hl := heap_lt hx2
  have hb0 : w2.cell? ⟨w1.heap.size, 0, none⟩ = some (.int .i64 hs) := by rw [cell_of_heap hx2]; rfl
  have hb1 : w2.cell? ⟨w1.heap.size, 1, none⟩ = some (.int .u64 hg) := by rw [cell_of_heap hx2]; rfl
  have hf0 : w2.frozen? ⟨w1.heap.size, 0, none⟩ = false := frozen_of_heap hx2 _
  have hf1 : w2.frozen? ⟨w1.heap.size, 1, none⟩ = false := frozen_of_heap hx2 _
  obtain ⟨toa, toc, ho⟩ := (h1.out.below hB2.out).opens
  have c5 := ho.c5
  have xl := ho.lt
  have hrow := Lib.hid ho.tr
  clear ho
  replace hx2 := Lib.hid hx2
  replace hy2 := Lib.hid hy2
  have hyb : w.heap.size ≠ w1.heap.size := by have := hz1.out; omega
  go_cut [31] (fun v wx => v = .bool (decide (d = 4 ∧ 0 < told.length)) ∧ wx = w2)
  case first =>
    as_aux_lemma =>
      by_cases hd : d = 4
      · by_cases ht : 0 < told.length
        · have : decide (d = 4 ∧ 0 < told.length) = true := by simp [hd, ht]
          replace this := Lib.hid this
          subst hd
          go_wp2_with fail
          go_meet
          exact ⟨by rw [this.out], rfl⟩
        · have : decide (d = 4 ∧ 0 < told.length) = false := by simp [ht]
          replace this := Lib.hid this
          have ht0 : told.length = 0 := by omega
          subst hd
          rw [ht0] at c5
          go_wp2_with fail
          go_meet
          exact ⟨by rw [this.out], rfl⟩
      · have : decide (d = 4 ∧ 0 < told.length) = false := by simp [hd]
        replace this := Lib.hid this
        have hd' : (d == 4) = false := beq_eq_false_iff_ne.2 hd
        go_wp2_with fail
        go_meet
        exact ⟨by rw [this.out], rfl⟩
  case rest =>
    obtain ⟨rfl, rfl⟩ := hcut
    go_upto_if 31 with fail
    go_cut [32] (fun _ wx => ∃ hs' hg' : Int, Below w1.heap.size w1 wx ∧ wx.heap[w1.heap.size]? = some (.cells #[.int .i64 hs', .int .u64 hg'] 40))
    case first =>
      as_aux_lemma =>
        by_cases hd : d = 4 ∧ 0 < told.length
        · have : decide (d = 4 ∧ 0 < told.length) = true := by simp [hd]
          rw [this]
          clear this
          obtain ⟨rfl, ht⟩ := hd
          obtain ⟨z, hz⟩ : ∃ z, told[told.length - 1 - ago % told.length]? = some z := ⟨_, List.getElem?_eq_getElem (by omega)⟩
          obtain ⟨q, c', he, _, _, ql, hc, _, _, hcell⟩ := hrow.out.at hz
          injection he with he _ he2
          subst he he2
          have g0 := hcell 0 _ rfl
          have g1 := hcell 1 _ rfl
          rw [Nat.add_zero] at g0
          have hmod : (ago : Int).tmod (told.length : Int) = ((ago % told.length : Nat) : Int) := by rw [Int.ofNat_tmod]
          have hm2 : ago % told.length < told.length := Nat.mod_lt _ ht
          have hmod2 : (ago : Int) % (told.length : Int) = ((ago % told.length : Nat) : Int) := (Int.natCast_emod ago told.length).symm
          generalize ago % told.length = am at *
          have v0 : IntKind.i64.wrap (ago : Int) = (ago : Int) := IntWalk.i64_in _ (by omega)
          have v5 : ((told.length : Int) == 0) = false := beq_eq_false_iff_ne.2 (by omega)
          have v6 : ¬ told.length = 0 := by omega
          have v1 : IntKind.i64.wrap ((told.length : Int) - 1) = (told.length : Int) - 1 := IntWalk.i64_in _ (by omega)
          have v2 : IntKind.i64.wrap ((told.length : Int) - 1 - (am : Int)) = ((told.length - 1 - am : Nat) : Int) := by rw [IntWalk.i64_in _ (by omega)]; omega
          have v3 : IntKind.i64.wrap (am : Int) = (am : Int) := IntWalk.i64_in _ (by omega)
          have v4 : told.length - 1 - am < told.length := by omega
          generalize told.length - 1 - am = ix at *
          replace hz := Lib.hid hz
          clear hcell
          go_wp2_with fail
          go_still_tail 22, (by kernel_rfl)
          change wpList _ _ _ _ _ wc.drew
          go_wp2_with fail
          go_meet
          exact ⟨z.1, z.2, (hB2.out.drew.setCell (p := ⟨w1.heap.size, 0, none⟩) (Nat.le_refl _) _).setCell (p := ⟨w1.heap.size, 1, none⟩) (Nat.le_refl _) _, by show ((wc.setCell ⟨w1.heap.size, 0, none⟩ (.int .i64 z.1)).setCell ⟨w1.heap.size, 1, none⟩ (.int .u64 z.2)).heap[w1.heap.size]? = _; rw [heap_set_same (heap_set_same hx2.out 0 _) 1 _]; rfl⟩
        · have : decide (d = 4 ∧ 0 < told.length) = false := by simpa using hd
          rw [this]
          clear this
          go_wp2_with fail
          go_meet
          exact ⟨hs, hg, hB2.out, hx2.out⟩
    case rest =>
      obtain ⟨hs', hg', hBw, hxw⟩ := hcut
      obtain ⟨K2, hK2, hyK, hhK, h2⟩ : ∃ K2, (∀ y, y ∈ K → y ∈ K2) ∧ (w.heap.size, Obj.cells #[.int .i64 d, .int .u8 inn, .string x, .int .i64 hs, .int .u64 hg, .int .u8 ago] 42) ∈ K2 ∧ (w1.heap.size, Obj.cells #[.int .i64 hs', .int .u64 hg'] 40) ∈ K2 ∧ AW w0 wc xb P wp SL SL told K2 := ⟨_, fun y hy => List.mem_append_left _ (List.mem_append_left _ hy), by simp, by simp, h1.out.adopt hBw (Nat.le_refl _) hxw⟩
      have hbx : Hid (∀ wz SLa SLb tl K3, AW w0 wz xb P wp SLa SLb tl K3 → (∀ y, y ∈ K2 → y ∈ K3) → wz.cell? ⟨w.heap.size, 0, none⟩ = some (.int .i64 d) ∧ wz.cell? ⟨w.heap.size, 2, none⟩ = some (.string x) ∧ w.heap.size < wz.heap.size ∧ wz.cell? ⟨w1.heap.size, 0, none⟩ = some (.int .i64 hs') ∧ wz.cell? ⟨w1.heap.size, 1, none⟩ = some (.int .u64 hg') ∧ w1.heap.size < wz.heap.size ∧ wz.cell? ⟨xb, 4, none⟩ = some (rptr (wpo wp)) ∧ xb < wz.heap.size) := Lib.hid (fun wz SLa SLb tl K3 ha hK => by
        have b1 := ha.box (hK _ hyK)
        have b2 := ha.box (hK _ hhK)
        obtain ⟨_, _, ho⟩ := ha.opens
        exact ⟨by rw [cell_of_heap b1]; rfl, by rw [cell_of_heap b1]; rfl, heap_lt b1, by rw [cell_of_heap b2]; rfl, by rw [cell_of_heap b2]; rfl, heap_lt b2, ho.c4, ho.lt⟩)
      have hcl := Lib.hid ((h2.below (Below.refl wc.heap.size wc).drew).rAlive (k := k) hs' hg')
      obtain ⟨a0, a2, al, b0, b1, bl, c4, cl⟩ := hbx.out _ _ _ _ _ h2 (fun _ hy => hy)
      replace h2 := Lib.hid h2
      replace hK2 := Lib.hid hK2
      clear hyK hhK hBw hxw y0 y2 y5 yl hl hb0 hb1 hf0 hf1 c5 xl hrow hx2 hy2 hB2
      generalize hyb' : w.heap.size = yb at *
      generalize hhb' : w1.heap.size = hb at *
      clear hyb' hhb' hyb hz1 hw1 h1
      go_wp2_with fail
      go_region_held3 (fun w' => w'.cell? ⟨xb, 4, none⟩ = some (rptr (wpo wp)) ∧ w'.cell? ⟨hb, 0, none⟩ = some (.int .i64 hs') ∧ w'.cell? ⟨hb, 1, none⟩ = some (.int .u64 hg')) (first | exact ⟨i0, i1, i2⟩ | go_keep) (first
        | (go_at_call 42; refine hcl.out.mono ?_; rintro z w5 ⟨rfl, h5, _⟩; obtain ⟨_, _, _, i1, i2, _, i0, _⟩ := hbx.out _ _ _ _ _ h5 (fun _ hy => hy); replace h5 := Lib.hid h5))
      all_goals
        clear hcl i0 i1 i2 a0 a2 al b0 b1 bl c4 cl
        obtain ⟨a0, a2, al, b0, b1, bl, c4, cl⟩ := hbx.out _ _ _ _ _ h5.out (fun _ hy => hy)
        obtain ⟨av, hav⟩ : ∃ av, aliveB SL k hs' hg' = av := ⟨_, rfl⟩
        rw [hav]
        go_upto_block 0 with fail
        go_cut [118] (fun _ wx => d ≠ 0 ∧ d ≠ 2 ∧ ∃ SL', AW w0 wx xb P wp SL' SL' told K2 ∧ SL'.length = SL.length ∧ aliveB SL' k hs' hg' = av)
        case first =>
          by_cases e0 : d = 0
          · subst e0
            as_aux_lemma =>
              by_cases hn : true ∈ freeOf SL
              · obtain ⟨s, hs1, hz0, _⟩ := free_first hn
                have hcl := Lib.hid (h5.out.alloc_some hk3 x hn s hs1 hz0)
                replace hs1 := Lib.hid hs1
                replace hn := Lib.hid hn
                replace hav := Lib.hid hav
                generalize hix : (freeOf SL).idxOf true = ix at *
                replace hix := Lib.hid hix
                go_wp2_with fail
                refine hcl.out.mono ?_
                clear hcl
                rintro z w6 ⟨rfl, h6⟩
                obtain ⟨w7, hw7⟩ : ∃ w7, w7 = w6.alloc (.cells #[.int .i64 ix, .int .u64 s.gen] 40) := ⟨_, rfl⟩
                have h7 : AW w0 w7 xb P wp (SL.set ix ⟨s.gen, k, x⟩) SL told (K2 ++ [(w6.heap.size, .cells #[.int .i64 ix, .int .u64 s.gen] 40)]) := by rw [hw7]; exact h6.alloc _
                have q7 := h7.box (x := (w6.heap.size, .cells #[.int .i64 ix, .int .u64 s.gen] 40)) (by simp)
                clear a0 a2 al b0 b1 bl c4 cl
                obtain ⟨a0, a2, al, b0, b1, bl, c4, cl⟩ := hbx.out _ _ _ _ _ h7 (fun _ hy => List.mem_append_left _ hy)
                have hcl : Hid (∀ W K4, AW w0 W xb P wp (SL.set ix ⟨s.gen, k, x⟩) SL told K4 → Calls Try.prog 44 #[rptr (wpo wp), .int .i64 k, .string x] W fun e w' => e = .returned (.tuple #[.agg #[.int .i64 ix, .int .u64 s.gen], .int .i64 0]) ∧ AW w0 w' xb P wp (SL.set ix ⟨s.gen, k, x⟩) (SL.set ix ⟨s.gen, k, x⟩) told K4) := Lib.hid (fun W K4 hW => by
                  have := hW.rAlloc_some (k := k) x hn.out s (by rw [hix.out]; exact hs1.out)
                  rw [hix.out] at this
                  exact this)
                have m0 : w7.cell? ⟨w6.heap.size, 0, none⟩ = some (.int .i64 ix) := by rw [cell_of_heap q7]; rfl
                have ml := heap_lt q7
                replace hw7 := Lib.hid hw7
                have f7 := Lib.hid h7.fresh
                have nx : xb ≠ w7.heap.size := Nat.ne_of_lt cl
                have ny : yb ≠ w7.heap.size := Nat.ne_of_lt al
                replace h7 := Lib.hid h7
                clear h6 q7
                go_upto_region 9 with fail
                rw [← hw7.out]
                clear hw7
                generalize w6.heap.size = kb at *
                go_region_held3 (fun w' => w'.cell? ⟨xb, 4, none⟩ = some (rptr (wpo wp)) ∧ w'.cell? ⟨yb, 2, none⟩ = some (.string x)) (first | exact ⟨i0, i1⟩ | exact ⟨set2_other nx i0, set2_other ny i1⟩ | go_keep) (first
                  | (go_at_call 44; refine (hcl.out _ _ (h7.out.below (Below.refl w7.heap.size w7).drew)).mono ?_; rintro z w8 ⟨rfl, h8⟩; obtain ⟨_, i1, _, _, _, _, i0, _⟩ := hbx.out _ _ _ _ _ h8 (fun _ hy => List.mem_append_left _ hy); replace h8 := Lib.hid h8)
                  | (go_at_call 44; refine (hcl.out _ _ ((h7.out.alloc (.cells #[.int .i64 0, .int .u64 0] 40)).below (Below.refl _ _).drew)).mono ?_; rintro z w8 ⟨rfl, h8⟩; obtain ⟨_, i1, _, _, _, _, i0, _⟩ := hbx.out _ _ _ _ _ h8 (fun _ hy => List.mem_append_left _ (List.mem_append_left _ hy)); have k8 := h8.box (x := (w7.heap.size, .cells #[.int .i64 0, .int .u64 0] 40)) (by simp); have j0 : w8.cell? ⟨w7.heap.size, 0, none⟩ = some (.int .i64 0) := (by rw [cell_of_heap k8]; rfl); have j1 : w8.cell? ⟨w7.heap.size, 1, none⟩ = some (.int .u64 0) := (by rw [cell_of_heap k8]; rfl); have j2 : w8.frozen? ⟨w7.heap.size, 0, none⟩ = false := frozen_of_heap k8 _; have j3 : w8.frozen? ⟨w7.heap.size, 1, none⟩ = false := frozen_of_heap k8 _; have j4 := heap_lt k8; clear k8; replace h8 := Lib.hid h8))
                all_goals
                  clear hcl a0 a2 al b0 b1 bl c4 cl i0 i1 m0 ml
                  first
                    | (obtain ⟨w9, hw9⟩ : ∃ w9, w9 = w8.alloc (.cells #[.int .i64 ix, .int .u64 s.gen] 40) := ⟨_, rfl⟩
                       rw [← hw9]
                       have h9 : AW w0 w9 xb P wp (SL.set ix ⟨s.gen, k, x⟩) (SL.set ix ⟨s.gen, k, x⟩) told ((K2 ++ [(kb, .cells #[.int .i64 ix, .int .u64 s.gen] 40)]) ++ [(w8.heap.size, .cells #[.int .i64 ix, .int .u64 s.gen] 40)]) := by rw [hw9]; exact h8.out.alloc _
                       clear hw9 h8 h7 f7 nx ny
                       generalize w8.heap.size = mb at *)
                    | (obtain ⟨w9, hw9⟩ : ∃ w9, w9 = (w8.setCell ⟨w7.heap.size, 0, none⟩ (.int .i64 ix)).setCell ⟨w7.heap.size, 1, none⟩ (.int .u64 s.gen) := ⟨_, rfl⟩
                       rw [← hw9]
                       have h9 : AW w0 w9 xb P wp (SL.set ix ⟨s.gen, k, x⟩) (SL.set ix ⟨s.gen, k, x⟩) told ((K2 ++ [(kb, .cells #[.int .i64 ix, .int .u64 s.gen] 40)]) ++ [(w7.heap.size, .cells #[.int .i64 ix, .int .u64 s.gen] 40)]) := by rw [hw9]; exact (h8.out.setK f7.out 0 _).setK f7.out 1 _
                       clear hw9 h8 h7 f7 nx ny j0 j1 j2 j3 j4
                       generalize w7.heap.size = mb at *)
                  have hkm : Hid (∀ wz SLa SLb tl, AW w0 wz xb P wp SLa SLb tl ((K2 ++ [(kb, .cells #[.int .i64 ix, .int .u64 s.gen] 40)]) ++ [(mb, .cells #[.int .i64 ix, .int .u64 s.gen] 40)]) → wz.cell? ⟨kb, 0, none⟩ = some (.int .i64 ix) ∧ wz.cell? ⟨kb, 1, none⟩ = some (.int .u64 s.gen) ∧ wz.cell? ⟨mb, 0, none⟩ = some (.int .i64 ix) ∧ wz.cell? ⟨mb, 1, none⟩ = some (.int .u64 s.gen) ∧ kb < wz.heap.size ∧ mb < wz.heap.size) := Lib.hid (fun wz SLa SLb tl ha => by
                    have u1 := ha.box (x := (kb, .cells #[.int .i64 ix, .int .u64 s.gen] 40)) (by simp)
                    have u2 := ha.box (x := (mb, .cells #[.int .i64 ix, .int .u64 s.gen] 40)) (by simp)
                    exact ⟨by rw [cell_of_heap u1]; rfl, by rw [cell_of_heap u1]; rfl, by rw [cell_of_heap u2]; rfl, by rw [cell_of_heap u2]; rfl, heap_lt u1, heap_lt u2⟩)
                  obtain ⟨k0, k1, _, _, kl, _⟩ := hkm.out _ _ _ _ h9
                  have hB10 : Below w9.heap.size w9 (w9.drew.alloc (.cells #[.int .i64 ix, .int .u64 s.gen] 40)) := (Below.refl _ _).drew.alloc (Nat.le_refl _) _
                  obtain ⟨ρ, A, B, C, toa, toc, ra, rc, hax⟩ := h9
                  have hax5 := hax.below hB10
                  have c5 := hax.xc.c5
                  have xl := hax.xc.lt
                  have hR5 := Lib.hid hax5.lb.tr
                  have hS5 : SrcOf (w9.drew.alloc (.cells #[.int .i64 ix, .int .u64 s.gen] 40)) (.slice (some ⟨w9.drew.heap.size, 0, none⟩) 1 1) 1 2 ([((ix : Int), s.gen)].flatMap hcell) := SrcOf.one w9.drew 40 (hcell ((ix : Int), s.gen)) (hcell_one _)
                  replace hS5 := Lib.hid hS5
                  have hT : Hid (∀ w6, Upd (Value.slice toa told.length toc).ownBlock.toList (w9.drew.alloc (.cells #[.int .i64 ix, .int .u64 s.gen] 40)) w6 → w6.cell? ⟨xb, 5, none⟩ = some (.slice toa told.length toc) ∧ w6.frozen? ⟨xb, 5, none⟩ = false ∧ xb < w6.heap.size) := Lib.hid (fun w6 hu => by
                    have hx5 : xb ∉ (Value.slice toa told.length toc).ownBlock.toList := fun hh => by have := hax5.lb.trr _ (mem_own hh); rw [hax5.lb.xr] at this; cases this
                    have := hu.heap hax5.lb.xblk hx5
                    exact ⟨by rw [cell_of_heap this]; rfl, frozen_of_heap this _, heap_lt this⟩)
                  obtain ⟨i2, hi2, hz2, hs2, hy2⟩ := hand_info
                  have hlen5 : told.length + 1 ≤ maxLen := by unfold maxLen; omega
                  have hby5 : (told.length + 1) * 16 ≤ 140737488355328 := by omega
                  replace hlen5 := Lib.hid hlen5
                  replace hby5 := Lib.hid hby5
                  replace hax5 := Lib.hid hax5
                  replace hax := Lib.hid hax
                  replace hB10 := Lib.hid hB10
                  go_wp2_with fail
                  go_region_law (refine step_append_row (f := hcell) (M := [((ix : Int), s.gen)]) _ rfl (.tmp 90) (.tmp 92) 61 rfl 0 40 i2 (.agg #[.int .i64 0, .int .u64 0]) 2 16 Try.underlying61 hi2 hz2 hs2 hy2 rfl (by decide) (.slice toa told.length toc) told (by simp [Act.eval]) hR5.out (.slice (some ⟨w9.drew.heap.size, 0, none⟩) 1 1) (by simp [Act.eval]) hS5.out hlen5.out hby5.out (Nat.zero_le _) ?_; intro a6 c6 w6 hrow hu hat; obtain ⟨t0, t1, t2⟩ := hT.out w6 hu; replace hrow := Lib.hid hrow; replace hu := Lib.hid hu; replace hat := Lib.hid hat)
                  all_goals
                    have hfin : ∃ tl, AW w0 (w6.setCell ⟨xb, 5, none⟩ (.slice a6 (told.length + 1) c6)) xb P wp (SL.set ix ⟨s.gen, k, x⟩) (SL.set ix ⟨s.gen, k, x⟩) tl ((K2 ++ [(kb, .cells #[.int .i64 ix, .int .u64 s.gen] 40)]) ++ [(mb, .cells #[.int .i64 ix, .int .u64 s.gen] 40)]) ∧ tl.length ≤ told.length + 1 := by
                      obtain ⟨ρ', hx⟩ := hax5.out.tell (told' := told ++ [((ix : Int), s.gen)]) (a' := a6) (c' := c6) hu.out (by rw [List.length_append]; exact hrow.out) (fun q hq => by
                        rw [List.length_append] at hq
                        exact own_at2 hat.out q hq)
                      rw [List.length_append] at hx
                      exact ⟨_, ⟨_, _, _, _, _, _, _, _, hx⟩, by simp⟩
                    obtain ⟨tl, hf1, hf2⟩ := hfin
                    clear t0 t1 t2 hrow hu hat hax hax5 hB10 hT hR5 hS5 hi2 hz2 hs2 hy2 c5 xl k0 k1 kl
                    generalize w6.setCell ⟨xb, 5, none⟩ (.slice a6 (told.length + 1) c6) = w10 at *
                    obtain ⟨k0, k1, m0, m1, kl, ml⟩ := hkm.out _ _ _ _ hf1
                    replace hf1 := Lib.hid hf1
                    go_wp2_with fail
                    go_ret
                    exact ⟨rfl, _, tl, hf1.out.keepK (fun y hy => List.mem_append_left _ (List.mem_append_left _ (hK2.out y hy))), List.length_set .., hf2⟩
              · have hcl := Lib.hid (h5.out.alloc_full hk3 x hn)
                replace hn := Lib.hid hn
                replace hav := Lib.hid hav
                go_wp2_with fail
                refine hcl.out.mono ?_
                clear hcl
                rintro z w6 ⟨rfl, h6⟩
                obtain ⟨w7, hw7⟩ : ∃ w7, w7 = w6.alloc (.cells #[.int .i64 0, .int .u64 0] 40) := ⟨_, rfl⟩
                have h7 : AW w0 w7 xb P wp SL SL told (K2 ++ [(w6.heap.size, .cells #[.int .i64 0, .int .u64 0] 40)]) := by rw [hw7]; exact h6.alloc _
                clear a0 a2 al b0 b1 bl c4 cl
                obtain ⟨a0, a2, al, b0, b1, bl, c4, cl⟩ := hbx.out _ _ _ _ _ h7 (fun _ hy => List.mem_append_left _ hy)
                have hcl : Hid (∀ W K4, AW w0 W xb P wp SL SL told K4 → Calls Try.prog 44 #[rptr (wpo wp), .int .i64 k, .string x] W fun e w' => e = .returned (.tuple #[.agg #[.int .i64 0, .int .u64 0], .int .i64 5]) ∧ AW w0 w' xb P wp SL SL told K4) := Lib.hid (fun W K4 hW => hW.rAlloc_full (k := k) x hn.out)
                replace hw7 := Lib.hid hw7
                have f7 := Lib.hid h7.fresh
                have nx : xb ≠ w7.heap.size := Nat.ne_of_lt cl
                have ny : yb ≠ w7.heap.size := Nat.ne_of_lt al
                replace h7 := Lib.hid h7
                clear h6
                go_upto_region 9 with fail
                rw [← hw7.out]
                clear hw7
                generalize w6.heap.size = kb at *
                go_region_held3 (fun w' => w'.cell? ⟨xb, 4, none⟩ = some (rptr (wpo wp)) ∧ w'.cell? ⟨yb, 2, none⟩ = some (.string x)) (first | exact ⟨i0, i1⟩ | exact ⟨set2_other nx i0, set2_other ny i1⟩ | go_keep) (first
                  | (go_at_call 44; refine (hcl.out _ _ (h7.out.below (Below.refl w7.heap.size w7).drew)).mono ?_; rintro z w8 ⟨rfl, h8⟩; obtain ⟨_, i1, _, _, _, _, i0, _⟩ := hbx.out _ _ _ _ _ h8 (fun _ hy => List.mem_append_left _ hy); replace h8 := Lib.hid h8)
                  | (go_at_call 44; refine (hcl.out _ _ ((h7.out.alloc (.cells #[.int .i64 0, .int .u64 0] 40)).below (Below.refl _ _).drew)).mono ?_; rintro z w8 ⟨rfl, h8⟩; obtain ⟨_, i1, _, _, _, _, i0, _⟩ := hbx.out _ _ _ _ _ h8 (fun _ hy => List.mem_append_left _ (List.mem_append_left _ hy)); have k8 := h8.box (x := (w7.heap.size, .cells #[.int .i64 0, .int .u64 0] 40)) (by simp); have j0 : w8.cell? ⟨w7.heap.size, 0, none⟩ = some (.int .i64 0) := (by rw [cell_of_heap k8]; rfl); have j1 : w8.cell? ⟨w7.heap.size, 1, none⟩ = some (.int .u64 0) := (by rw [cell_of_heap k8]; rfl); have j2 : w8.frozen? ⟨w7.heap.size, 0, none⟩ = false := frozen_of_heap k8 _; have j3 : w8.frozen? ⟨w7.heap.size, 1, none⟩ = false := frozen_of_heap k8 _; have j4 := heap_lt k8; clear k8; replace h8 := Lib.hid h8))
                all_goals
                  clear hcl a0 a2 al b0 b1 bl c4 cl i0 i1
                  first
                    | (obtain ⟨w9, hw9⟩ : ∃ w9, w9 = w8.alloc (.cells #[.int .i64 0, .int .u64 0] 40) := ⟨_, rfl⟩
                       rw [← hw9]
                       have h9 : AW w0 w9 xb P wp (SL) (SL) told ((K2 ++ [(kb, .cells #[.int .i64 0, .int .u64 0] 40)]) ++ [(w8.heap.size, .cells #[.int .i64 0, .int .u64 0] 40)]) := by rw [hw9]; exact h8.out.alloc _
                       clear hw9 h8 h7 f7 nx ny
                       generalize w8.heap.size = mb at *)
                    | (obtain ⟨w9, hw9⟩ : ∃ w9, w9 = (w8.setCell ⟨w7.heap.size, 0, none⟩ (.int .i64 0)).setCell ⟨w7.heap.size, 1, none⟩ (.int .u64 0) := ⟨_, rfl⟩
                       rw [← hw9]
                       have h9 : AW w0 w9 xb P wp (SL) (SL) told ((K2 ++ [(kb, .cells #[.int .i64 0, .int .u64 0] 40)]) ++ [(w7.heap.size, .cells #[.int .i64 0, .int .u64 0] 40)]) := by rw [hw9]; exact (h8.out.setK f7.out 0 _).setK f7.out 1 _
                       clear hw9 h8 h7 f7 nx ny j0 j1 j2 j3 j4
                       generalize w7.heap.size = mb at *)
                  have u1 := h9.box (x := (kb, .cells #[.int .i64 0, .int .u64 0] 40)) (by simp)
                  have u2 := h9.box (x := (mb, .cells #[.int .i64 0, .int .u64 0] 40)) (by simp)
                  have k0 : w9.cell? ⟨kb, 0, none⟩ = some (.int .i64 0) := by rw [cell_of_heap u1]; rfl
                  have k1 : w9.cell? ⟨kb, 1, none⟩ = some (.int .u64 0) := by rw [cell_of_heap u1]; rfl
                  have m0 : w9.cell? ⟨mb, 0, none⟩ = some (.int .i64 0) := by rw [cell_of_heap u2]; rfl
                  have m1 : w9.cell? ⟨mb, 1, none⟩ = some (.int .u64 0) := by rw [cell_of_heap u2]; rfl
                  have kl := heap_lt u1
                  have ml := heap_lt u2
                  clear u1 u2
                  replace h9 := Lib.hid h9
                  go_wp2_with fail
                  go_ret
                  exact ⟨rfl, _, told, h9.out.keepK (fun y hy => List.mem_append_left _ (List.mem_append_left _ (hK2.out y hy))), rfl, by omega⟩
          by_cases e2 : d = 2
          · subst e2
            as_aux_lemma =>
              cases av with
              | true =>
                obtain ⟨i, s, rfl, hs1, hs2, rfl⟩ := aliveB_some hav
                have hcl := Lib.hid ((h5.out.below (Below.refl w5.heap.size w5).drew).release_alive hk3 i s hs1 hs2)
                replace hs1 := Lib.hid hs1
                replace hs2 := Lib.hid hs2
                replace hav := Lib.hid hav
                go_wp2_with fail
                go_region_held3 (fun w' => w'.cell? ⟨xb, 4, none⟩ = some (rptr (wpo wp)) ∧ w'.cell? ⟨hb, 0, none⟩ = some (.int .i64 i) ∧ w'.cell? ⟨hb, 1, none⟩ = some (.int .u64 s.gen)) (first | exact ⟨i0, i1, i2⟩ | go_keep) (first
                  | (go_at_call 45; refine hcl.out.mono ?_; rintro z w6 ⟨rfl, h6⟩; obtain ⟨_, _, _, i1, i2, _, i0, _⟩ := hbx.out _ _ _ _ _ h6 (fun _ hy => hy); replace h6 := Lib.hid h6)
                  | (go_at_call 46; refine (h6.out.rRelease_yes i s hs1.out hs2.out).mono ?_; rintro z w7 ⟨rfl, h7⟩; obtain ⟨_, _, _, i1, i2, _, i0, _⟩ := hbx.out _ _ _ _ _ h7 (fun _ hy => hy); replace h7 := Lib.hid h7))
                all_goals
                  go_wp2_with fail
                  go_ret
                  exact ⟨rfl, _, told, h7.out.keepK hK2.out, List.length_set .., by omega⟩
              | false =>
                have hcl := Lib.hid ((h5.out.below (Below.refl w5.heap.size w5).drew).release_dead hk3 hs' hg' hav)
                replace hav := Lib.hid hav
                go_wp2_with fail
                go_region_held3 (fun w' => w'.cell? ⟨xb, 4, none⟩ = some (rptr (wpo wp)) ∧ w'.cell? ⟨hb, 0, none⟩ = some (.int .i64 hs') ∧ w'.cell? ⟨hb, 1, none⟩ = some (.int .u64 hg')) (first | exact ⟨i0, i1, i2⟩ | go_keep) (first
                  | (go_at_call 45; refine hcl.out.mono ?_; rintro z w6 ⟨rfl, h6⟩; obtain ⟨_, _, _, i1, i2, _, i0, _⟩ := hbx.out _ _ _ _ _ h6 (fun _ hy => hy); replace h6 := Lib.hid h6)
                  | (go_at_call 46; refine (h6.out.rRelease_no hs' hg' hav.out).mono ?_; rintro z w7 ⟨rfl, h7⟩; obtain ⟨_, _, _, i1, i2, _, i0, _⟩ := hbx.out _ _ _ _ _ h7 (fun _ hy => hy); replace h7 := Lib.hid h7))
                all_goals
                  go_wp2_with fail
                  go_ret
                  exact ⟨rfl, _, told, h7.out.keepK hK2.out, rfl, by omega⟩
          have e0' : (d == 0) = false := beq_eq_false_iff_ne.2 e0
          have e2' : (d == 2) = false := beq_eq_false_iff_ne.2 e2
          by_cases e3 : d = 3
          · subst e3
            as_aux_lemma =>
              cases av with
              | true =>
                obtain ⟨i, s, rfl, hs1, hs2, rfl⟩ := aliveB_some hav
                have hcl := Lib.hid (h5.out.write_alive hk3 i s x hs1 hs2)
                replace hs1 := Lib.hid hs1
                replace hs2 := Lib.hid hs2
                replace hav := Lib.hid hav
                go_wp2_with fail
                refine hcl.out.mono ?_
                clear hcl
                rintro z w6 ⟨rfl, h6⟩
                obtain ⟨b, q, c, hwb, d0, dl, ql, d1, df, h7⟩ := (h6.below (Below.refl w6.heap.size w6).drew).rText hs1.out x
                clear a0 a2 al b0 b1 bl c4 cl
                obtain ⟨a0, a2, al, b0, b1, bl, c4, cl⟩ := hbx.out _ _ _ _ _ h6 (fun _ hy => hy)
                have d0' : w6.cell? ⟨b, 0, none⟩ = some (.slice (some ⟨q, 0, none⟩) SL.length c) := d0
                have d1' : w6.cell? ⟨q, i * 3 + 2, none⟩ = some (.string s.x) := d1
                have df' : w6.frozen? ⟨q, i * 3 + 2, none⟩ = false := df
                have dl' : b < w6.heap.size := dl
                have ql' : q < w6.heap.size := ql
                have hiL : i < SL.length := (List.getElem?_eq_some_iff.1 hs1.out).1
                have c4' : w6.cell? ⟨xb, 4, none⟩ = some (.pointer (some ⟨b, 0, none⟩)) := by rw [hwb] at c4; exact c4
                replace h7 := Lib.hid h7
                clear h6 d0 d1 df dl ql c4 hwb
                go_wp2_with fail
                go_still_tail 13, (by kernel_rfl)
                change wpList _ _ _ _ _ w6.drew
                go_wp2_with fail
                go_meet
                exact ⟨by decide, by decide, _, h7.out, List.length_set .., by
                  rw [← hs2.out]
                  exact aliveB_of (s := ⟨s.gen, s.who, x⟩) (by rw [set_get hs1.out, if_pos rfl]) rfl⟩
              | false =>
                have hcl := Lib.hid (h5.out.write_dead hk3 hs' hg' x hav)
                replace hav := Lib.hid hav
                go_wp2_with fail
                refine hcl.out.mono ?_
                clear hcl
                rintro z w6 ⟨rfl, h6⟩
                replace h6 := Lib.hid h6
                go_wp2_with fail
                go_meet
                exact ⟨by decide, by decide, SL, h6.out, rfl, hav.out⟩
          · have e3' : (d == 3) = false := beq_eq_false_iff_ne.2 e3
            replace hav := Lib.hid hav
            replace e0 := Lib.hid e0
            replace e2 := Lib.hid e2
            clear e3
            go_wp2_with fail
            go_meet
            exact ⟨e0.out, e2.out, SL, h5.out, rfl, hav.out⟩
        case rest =>
          obtain ⟨d0, d2, SL', h6, hlen, hav'⟩ := hcut
          as_aux_lemma =>
            clear a0 a2 al b0 b1 bl c4 cl hav h5
            replace h6 := Lib.hid h6
            replace hlen := Lib.hid hlen
            replace d0 := Lib.hid d0
            replace d2 := Lib.hid d2
            obtain ⟨a0, a2, al, b0, b1, bl, c4, cl⟩ := hbx.out _ _ _ _ _ h6.out (fun _ hy => hy)
            cases av with
            | true =>
              obtain ⟨i, s, rfl, hs1, hs2, rfl⟩ := aliveB_some hav'
              have hcl := Lib.hid (h6.out.get_alive hk3 i s hs1 hs2)
              replace hs1 := Lib.hid hs1
              replace hs2 := Lib.hid hs2
              replace hav' := Lib.hid hav'
              go_wp2_with fail
              refine hcl.out.mono ?_
              clear hcl
              rintro z w7 ⟨rfl, h7⟩
              clear a0 a2 al b0 b1 bl c4 cl
              obtain ⟨a0, a2, al, b0, b1, bl, c4, cl⟩ := hbx.out _ _ _ _ _ h7 (fun _ hy => hy)
              obtain ⟨b, q, c, hwb, e0, dl, ql, e1, _, _⟩ := h7.rText hs1.out x
              have hiL : i < SL'.length := (List.getElem?_eq_some_iff.1 hs1.out).1
              have c4' : w7.cell? ⟨xb, 4, none⟩ = some (.pointer (some ⟨b, 0, none⟩)) := by rw [hwb] at c4; exact c4
              replace h7 := Lib.hid h7
              clear c4 hwb
              go_wp2_with fail
              go_quiet (fail)
              go_wp2_with fail
              clear e0 dl ql e1 hiL c4' a0 a2 al b0 b1 bl cl
              obtain ⟨w8, hw8⟩ : ∃ w8, w8 = w7.drewN nq := ⟨_, rfl⟩
              have h8 := h7.out.below (w' := w7.drewN nq) ⟨rfl, rfl, rfl, Nat.le_refl _, fun _ _ => rfl⟩
              rw [← hw8] at h8 ⊢
              clear hw8 h7
              obtain ⟨a0, a2, al, b0, b1, bl, c4, cl⟩ := hbx.out _ _ _ _ _ h8 (fun _ hy => hy)
              by_cases d4 : d = 4
              · subst d4
                have hcl := Lib.hid ((h8.below (Below.refl w8.heap.size w8).drew).release_alive hk3 i s hs1.out hs2.out)
                replace h8 := Lib.hid h8
                go_wp2_with fail
                go_region_held3 (fun w' => w'.cell? ⟨yb, 0, none⟩ = some (.int .i64 4) ∧ w'.cell? ⟨xb, 4, none⟩ = some (rptr (wpo wp)) ∧ w'.cell? ⟨hb, 0, none⟩ = some (.int .i64 i) ∧ w'.cell? ⟨hb, 1, none⟩ = some (.int .u64 s.gen)) (first | exact ⟨i3, i0, i1, i2⟩ | go_keep) (first
                  | (go_at_call 45; refine hcl.out.mono ?_; rintro z w9 ⟨rfl, h9⟩; obtain ⟨i3, _, _, i1, i2, _, i0, _⟩ := hbx.out _ _ _ _ _ h9 (fun _ hy => hy); replace h9 := Lib.hid h9)
                  | (go_at_call 46; refine (h9.out.rRelease_yes i s hs1.out hs2.out).mono ?_; rintro z w10 ⟨rfl, h10⟩; obtain ⟨i3, _, _, i1, i2, _, i0, _⟩ := hbx.out _ _ _ _ _ h10 (fun _ hy => hy); replace h10 := Lib.hid h10))
                all_goals
                  go_wp2_with fail
                  go_ret
                  exact ⟨rfl, _, told, h10.out.keepK hK2.out, by rw [List.length_set]; exact hlen.out, by omega⟩
              · have d4' : (d == 4) = false := beq_eq_false_iff_ne.2 d4
                have d5' : (d != 4) = true := bne_iff_ne.2 d4
                replace h8 := Lib.hid h8
                clear d4
                go_wp2_with fail
                go_quiet (fail)
                go_wp2_with fail
                go_ret
                exact ⟨rfl, _, told, (h8.out.below (w' := w8.drewN _) ⟨rfl, rfl, rfl, Nat.le_refl _, fun _ _ => rfl⟩).keepK hK2.out, hlen.out, by omega⟩
            | false =>
              have hcl := Lib.hid (h6.out.get_dead hk3 hs' hg' hav')
              replace hav' := Lib.hid hav'
              go_wp2_with fail
              refine hcl.out.mono ?_
              clear hcl
              rintro z w7 ⟨rfl, h7⟩
              clear a0 a2 al b0 b1 bl c4 cl
              obtain ⟨a0, a2, al, b0, b1, bl, c4, cl⟩ := hbx.out _ _ _ _ _ h7 (fun _ hy => hy)
              replace h7 := Lib.hid h7
              go_wp2_with fail
              go_quiet (fail)
              go_wp2_with fail
              clear a0 a2 al b0 b1 bl c4 cl
              obtain ⟨w8, hw8⟩ : ∃ w8, w8 = w7.drewN nq := ⟨_, rfl⟩
              have h8 := h7.out.below (w' := w7.drewN nq) ⟨rfl, rfl, rfl, Nat.le_refl _, fun _ _ => rfl⟩
              rw [← hw8] at h8 ⊢
              clear hw8 h7
              obtain ⟨a0, a2, al, b0, b1, bl, c4, cl⟩ := hbx.out _ _ _ _ _ h8 (fun _ hy => hy)
              by_cases d4 : d = 4
              · subst d4
                have hcl := Lib.hid ((h8.below (Below.refl w8.heap.size w8).drew).release_dead hk3 hs' hg' hav'.out)
                replace h8 := Lib.hid h8
                go_wp2_with fail
                go_region_held3 (fun w' => w'.cell? ⟨yb, 0, none⟩ = some (.int .i64 4) ∧ w'.cell? ⟨xb, 4, none⟩ = some (rptr (wpo wp)) ∧ w'.cell? ⟨hb, 0, none⟩ = some (.int .i64 hs') ∧ w'.cell? ⟨hb, 1, none⟩ = some (.int .u64 hg')) (first | exact ⟨i3, i0, i1, i2⟩ | go_keep) (first
                  | (go_at_call 45; refine hcl.out.mono ?_; rintro z w9 ⟨rfl, h9⟩; obtain ⟨i3, _, _, i1, i2, _, i0, _⟩ := hbx.out _ _ _ _ _ h9 (fun _ hy => hy); replace h9 := Lib.hid h9)
                  | (go_at_call 46; refine (h9.out.rRelease_no hs' hg' hav'.out).mono ?_; rintro z w10 ⟨rfl, h10⟩; obtain ⟨i3, _, _, i1, i2, _, i0, _⟩ := hbx.out _ _ _ _ _ h10 (fun _ hy => hy); replace h10 := Lib.hid h10))
                all_goals
                  go_wp2_with fail
                  go_ret
                  exact ⟨rfl, _, told, h10.out.keepK hK2.out, hlen.out, by omega⟩
              · have d4' : (d == 4) = false := beq_eq_false_iff_ne.2 d4
                have d5' : (d != 4) = true := bne_iff_ne.2 d4
                replace h8 := Lib.hid h8
                clear d4
                go_wp2_with fail
                go_quiet (fail)
                go_wp2_with fail
                go_ret
                exact ⟨rfl, _, told, (h8.out.below (w' := w8.drewN _) ⟨rfl, rfl, rfl, Nat.le_refl _, fun _ _ => rfl⟩).keepK hK2.out, hlen.out, by omega⟩
end
end Go.Proofs.Ytoknkedmpdcinaa
