/- A trie in its world: its places; a look of a reader that is told nothing. A reader that is told nothing: Get and Next of a tree. -/
import Derived.Test.YtmhlokomlngdmaaGreatArtRn
namespace Go.Proofs.YtmhlokomlngdmaaGreat
open Go.RowKit
/-- A tree that has C. -/
structure AT (w0 w : World) (T : TS) (C : Cont) : Prop where
  am : AM w0 w T
  ok : AOK T.F T.r
  ct : ACt T.F C
  nm : ANrm T.F T.r
  nb : (T.F.map (·.2.nb)).Nodup
  sz : T.n = C.length
  lim : ∀ x, x ∈ T.F → x.2.path.length ≤ 600
section
variable {w0 w w' : World} {T T' : TS} {C : Cont} {x : Hd × AN}
theorem AT.below (h : AT w0 w T C) (hb : Below w.heap.size w w') : AT w0 w' T C := ⟨h.am.below hb, h.ok, h.ct, h.nm, h.nb, h.sz, h.lim⟩
theorem AM.freeLen (h : AM w0 w T) : T.F.length + T.free.count true ≤ T.free.length ∧ T.free.length ≤ 4096 := by
  have h1 := h.cnt
  have h2 := h.len
  have h3 : T.d.A.L.length ≤ (T.D.map fun d => d.A.L.length).sum := sum_le_of_mem (List.mem_map.2 ⟨T.d, List.mem_of_getElem? h.hd, rfl⟩)
  exact ⟨by omega, h.bw.ars.pool.1.2.1⟩
theorem AM.wr (h : AM w0 w T) {S : List Nat} (hu : Upd S w w') (hS : ∀ q, q ∈ S → w0.heap.size ≤ q ∧ T.ρ q = 0) : AM w0 w' T := by
  have hU : RU [0] w w' T.ρ T.ρ := RU.upd h.bw.ro hu (fun k hk _ => by rw [(hS k hk).2]; simp)
  have hro : Ro w0 w' T.ρ := ⟨h.bw.ro.bel.trans (hu.below h.bw.ro.bel.size fun k hk => (hS k hk).1), h.bw.ro.old, fun k hk => h.bw.ro.far k (Nat.le_trans hu.size hk)⟩
  have hars : Ars w' T.ρ (some T.P) T.gens T.free T.D := ⟨h.bw.ars.pool.ru hU (by simp) (by simp) (by simp), fun j d hd => (h.bw.ars.ar j d hd).ru hU (by simp) (by simp) (by simp) fun e he => ((h.bw.ars.ar j d hd).th e he).2⟩
  exact ⟨⟨hro, hars⟩, h.hd, h.ta, h.tc, h.rol, hU.heap h.blk (by rw [h.rol]; simp), h.ent, h.kid, h.ndf, h.kw.ru hU (by simp), h.len, h.sep, h.cnt⟩
/-- A node's place. -/
theorem AM.at (h : AM w0 w T) (hx : x ∈ T.F) : ∃ e, e ∈ T.d.A.L ∧ (e.slot : Int) = x.1.1 ∧ e.gen = x.1.2 ∧ w.heap[e.blk]? = some (.cells (.int .u64 e.gen :: nxs x.2).toArray 129) ∧
    ∀ W, Below w.heap.size w W → Calls Tryz.prog 41 #[.pointer (some ⟨T.t, 0, none⟩), hV x.1] W fun y W' => y = .returned (.pointer (some ⟨e.blk, 1, none⟩)) ∧ Below W.heap.size W W' := by
  obtain ⟨e, e1, e2, e3, e4, hG⟩ := h.get hx
  refine ⟨e, e1, e2, e3, e4, fun W hW => ?_⟩
  obtain ⟨_, c1, _, _, _, _, hq⟩ := h.cells
  have c1 := keep hW c1
  have hq := Nat.lt_of_lt_of_le hq hW.size
  obtain ⟨⟨g1, g2⟩, n⟩ := x
  have hG1 := Lib.hid fun W1 (h1 : Below W.heap.size W W1) => hG W1 (hW.trans (h1.mono hW.size))
  clear hG hx e4 e3 e2 e1
  generalize e.blk = q at *
  replace hW := Lib.hid hW
  clear h
  obtain ⟨wb, hwb⟩ : ∃ wb, wb = W.alloc (.cells #[.int .i64 g1, .int .u64 g2] 77) := ⟨_, rfl⟩
  have hB : Below W.heap.size W wb := by rw [hwb]; exact (Below.refl _ _).alloc (Nat.le_refl _) _
  have hbx : wb.heap[W.heap.size]? = some (.cells #[.int .i64 g1, .int .u64 g2] 77) := by rw [hwb]; exact heap_alloc_new _ _
  have c2 := keep hB c1
  have hq2 := Nat.lt_of_lt_of_le hq hB.size
  obtain ⟨b0, b1, bq, bf⟩ := cells2 hbx
  replace hwb := Lib.hid hwb
  go_enter Tryz.func41, Tryz.ntmps41
  go_upto_region 1 with fail
  rw [← hwb.out]
  clear c1 hq hbx
  go_region_held3 (fun W' => W'.cell? ⟨T.t, 1, none⟩ = some (.pointer (some ⟨T.d.A.a, 0, none⟩)) ∧ W'.cell? ⟨W.heap.size, 0, none⟩ = some (.int .i64 g1) ∧ W'.cell? ⟨W.heap.size, 1, none⟩ = some (.int .u64 g2)) (first | exact ⟨c2, b0, b1⟩ | exact ⟨i0, i1, i2⟩ | go_keep) (first
    | (go_at_call 51; refine (hG1.out _ hB.drew).mono ?_; rintro z w2 ⟨rfl, hb2⟩; have hbw := hB.drew.trans (hb2.mono hB.drew.size); have hb3 : Below wb.heap.size wb w2 := bel_dr (k := 1) hb2; have i0 := keep hb3 c2; have i1 := keep hb3 b0; have i2 := keep hb3 b1; replace hbw := Lib.hid hbw; replace hb2 := Lib.hid hb2; replace hb3 := Lib.hid hb3))
  all_goals
    go_wp2_with fail
    go_ret
    exact ⟨rfl, hbw.out⟩
end
end Go.Proofs.YtmhlokomlngdmaaGreat
namespace Go.Proofs.YtmhlokomlngdmaaGreat
open Go.RowKit
def StN (w0 : World) (T : TS) (C : Cont) (wk ν : Nat) (s : RS) (g : Bool) (w : World) : Prop :=
  s.m = 0 ∧ s.d = 0 ∧ s.F = T.F ∧ s.C = C ∧ s.K = T.K ∧ s.ρ = mark T.ρ wk ν ∧ AT w0 w T C ∧ (T.ρ wk = 0 ∧ w0.heap.size ≤ wk) ∧ w.heap[wk]? = some (.cells #[.pointer (some ⟨T.d.A.a, 0, none⟩), .nilFunc, .bool g] 117)
theorem run_equalIn_nil_nilFunc {P : Program} (w : World) (d : Nat) (t : TypeId) {ps rs : Array TypeId} {v : Bool} (h : P.underlying t = some (.func ps rs v)) :
    (Op.equalIn (d + 1) t .nilFunc .nilFunc).run P w = .ok true w := by
  simp [Op.equalIn, run_underlying h]
theorem run_neq_nil_nilFunc {P : Program} (w : World) (t : TypeId) {ps rs : Array TypeId} {v : Bool} (h : P.underlying t = some (.func ps rs v)) : (binOp .neq t .nilFunc .nilFunc).run P w = .ok (.bool false) w := by
  simp only [binOp]
  simp [Op.equal, Op.maxDepth, run_equalIn_nil_nilFunc w 9999 t h]
/-- A node's cells in the arena. -/
theorem nx_cells {w : World} {q : Nat} {g : Value} {tc : TypeId} {n : AN} (h : w.heap[q]? = some (.cells (g :: nxs n).toArray tc)) :
    w.cell? ⟨q, 1, none⟩ = some (.string n.pre) ∧ w.cell? ⟨q, 2, none⟩ = some (.string (n.val.getD s0)) ∧ w.cell? ⟨q, 3, none⟩ = some (.bool n.val.isSome) ∧ w.cell? ⟨q, 4, none⟩ = some (.pointer (some ⟨n.nb, 0, none⟩)) ∧ q < w.heap.size ∧ ∀ i, w.frozen? ⟨q, i, none⟩ = false := by
  refine ⟨?_, ?_, ?_, ?_, heap_lt h, fun i => frozen_of_heap h i⟩ <;> rw [cell_of_heap h] <;> rfl
/-- A node's box is written. -/
theorem an_stored {w : World} {q : Nat} {a b c d : Value} (h : w.heap[q]? = some (.cells #[a, b, c, d] 75)) (x y z u : Value) :
    ((((w.setCell ⟨q, 0, none⟩ x).setCell ⟨q, 1, none⟩ y).setCell ⟨q, 2, none⟩ z).setCell ⟨q, 3, none⟩ u).heap[q]? = some (.cells #[x, y, z, u] 75) ∧
    Upd [q] w ((((w.setCell ⟨q, 0, none⟩ x).setCell ⟨q, 1, none⟩ y).setCell ⟨q, 2, none⟩ z).setCell ⟨q, 3, none⟩ u) := by
  have h0 : (w.setCell ⟨q, 0, none⟩ x).heap[q]? = some (.cells #[x, b, c, d] 75) := heap_set_same h 0 _
  have h1 : ((w.setCell ⟨q, 0, none⟩ x).setCell ⟨q, 1, none⟩ y).heap[q]? = some (.cells #[x, y, c, d] 75) := heap_set_same h0 1 _
  have h2 : (((w.setCell ⟨q, 0, none⟩ x).setCell ⟨q, 1, none⟩ y).setCell ⟨q, 2, none⟩ z).heap[q]? = some (.cells #[x, y, z, d] 75) := heap_set_same h1 2 _
  refine ⟨heap_set_same h2 3 _, ?_⟩
  iterate 4 refine Upd.setCell ?_ (by simp) _
  exact Upd.refl _ _
section
variable {w0 w w' : World} {T T' : TS} {C : Cont} {x : Hd × AN} {wk ν : Nat} {s : RS} {g : Bool}
theorem AT.ru {rs : List Nat} {ρ' : Nat → Nat} (h : AT w0 w T C) (hu : RU rs w w' T.ρ ρ') (hr : ∀ r, r ∈ rs → 6 ≤ r ∧ r ≤ 9) : AT w0 w' { T with ρ := ρ' } C := ⟨h.am.ru hu hr, h.ok, h.ct, h.nm, h.nb, h.sz, h.lim⟩
theorem res_node {W : World} {FB : Nat} {a b c d e : Value} (tmps : Array Value) (h : tmps[4]? = some (.pointer (some ⟨FB, 0, none⟩))) (h5 : tmps[5]? = some e) (hc : W.heap[FB]? = some (.cells #[a, b, c, d] 75)) : (results Tryz.f58 tmps).run Tryz.prog W = .ok (.tuple #[.agg #[a, b, c, d], e]) W := by
  obtain ⟨c0, c1, c2, c3, _, _⟩ := cells4 hc
  simp [results, Tryz.results58, go_sem, h, h5, c0, c1, c2, c3]
set_option maxRecDepth 100000 in
set_option maxHeartbeats 1000000 in
theorem node_nil (hS : StN w0 T C wk ν s g w) (h : Hd) : Calls Tryz.prog 58 #[.pointer (some ⟨wk, 0, none⟩), hV h] w (NodeEnd [ν] (StN w0 T C wk ν) s g h w) := by
  obtain ⟨m0, d0, eF, eC, eK, eρ, hA, hr, hw⟩ := hS
  have hst : ∀ w', RU [ν] w w' (mark T.ρ wk ν) (mark T.ρ wk ν) → RStep [ν] w w' s { s with k := s.k + 1 } := fun w' hu => ⟨by show RU [ν] w w' s.ρ s.ρ; rw [eρ]; exact hu, Nat.le_refl _, Nat.le_refl _, fun _ => ⟨rfl, rfl, rfl⟩, fun _ h => h, fun _ => rfl, Nat.le_succ _, fun hn => absurd m0 hn⟩
  obtain ⟨h1, h2⟩ := h
  have hnf : ∀ W, (binOp .neq 1 .nilFunc .nilFunc).run Tryz.prog W = .ok (.bool false) W := fun W => run_neq_nil_nilFunc W 1 Tryz.underlying1
  obtain ⟨wb, hwb⟩ : ∃ wb, wb = (w.alloc (.cells #[.int .i64 h1, .int .u64 h2] 77)).alloc (.cells #[.string ⟨#[]⟩, .string ⟨#[]⟩, .bool false, .pointer none] 75) := ⟨_, rfl⟩
  obtain ⟨hbx, hby⟩ := heap_two w (.cells #[.int .i64 h1, .int .u64 h2] 77) (.cells #[.string ⟨#[]⟩, .string ⟨#[]⟩, .bool false, .pointer none] 75)
  have hB := below_two w (.cells #[.int .i64 h1, .int .u64 h2] 77) (.cells #[.string ⟨#[]⟩, .string ⟨#[]⟩, .bool false, .pointer none] 75)
  rw [← hwb] at hbx hby hB
  obtain ⟨b0, b1, bq, bf⟩ := cells2 hbx
  obtain ⟨k0, k1, k2, kq, kf⟩ := cells3 (Below.heap' hB hw)
  have hwl := heap_lt hw
  have hro2 : Ro w0 w (mark T.ρ wk ν) := ⟨hA.am.bw.ro.bel, fun k hk => by rw [mark_other (by omega)]; exact hA.am.bw.ro.old k hk, fun k hk => by rw [mark_other (by omega)]; exact hA.am.bw.ro.far k hk⟩
  by_cases hal : ∃ n, ((h1, h2), n) ∈ T.F
  · obtain ⟨n, hn⟩ := hal
    obtain ⟨e, _, _, _, e4, hG⟩ := hA.am.get hn
    have hfin : Hid (∀ W W', Below w.heap.size w W → Upd [w.heap.size + 1] W W' → NodeEnd [ν] (StN w0 T C wk ν) s g (h1, h2) w (.returned (.tuple #[nV n, .bool true])) W') := Lib.hid fun W W' hW hu => by
      have hb : Below w.heap.size w W' := hW.trans (hu.below hW.size (by simp))
      exact ⟨_, hst W' (RU.below hro2 hb), ⟨.inl m0, rfl⟩, .inl ⟨n, by show _ ∈ s.F; rw [eF]; exact hn, rfl, m0, d0, eF, eC, eK, eρ, hA.below hb, hr, Below.heap' hb hw⟩⟩
    unfold nV at hfin
    have hcw := Lib.hid fun W (hW : Below w.heap.size w W) => nx_cells (Below.heap' hW e4)
    generalize e.blk = q at *
    replace hG := Lib.hid hG
    replace hwb := Lib.hid hwb
    replace hby := Lib.hid hby
    replace hst := Lib.hid hst
    obtain ⟨pp, pre, val, kids, nb⟩ := n
    simp only at hcw hfin
    generalize val.getD s0 = vg at *
    generalize val.isSome = vs at *
    clear hA hw hbx hn
    go_enter Tryz.func58, Tryz.ntmps58
    go_upto_region 1 with fail
    rw [← hwb.out]
    go_wp2_with fail
    go_region_held3 (fun W' => W'.cell? ⟨wk, 0, none⟩ = some (.pointer (some ⟨T.d.A.a, 0, none⟩)) ∧ W'.cell? ⟨w.heap.size, 0, none⟩ = some (.int .i64 h1) ∧ W'.cell? ⟨w.heap.size, 1, none⟩ = some (.int .u64 h2)) (first | exact ⟨k0, b0, b1⟩ | exact ⟨i0, i1, i2⟩ | go_keep) (first
      | (go_at_call 51; refine (hG.out _ hB.drew).mono ?_; rintro z w2 ⟨rfl, hb2⟩; have hb3 : Below wb.heap.size wb w2 := bel_dr (k := 1) hb2; have hbw := hB.trans (hb3.mono hB.size); have i0 := keep hb3 k0; have i1 := keep hb3 b0; have i2 := keep hb3 b1; obtain ⟨z1, z2, z3, z4, zq, zf⟩ := hcw.out w2 hbw; have hy2 := Below.heap' hb3 hby.out; obtain ⟨y0, y1, y2, y3, yq, yf⟩ := cells4 hy2; have hst2 := an_stored hy2 (.string pre) (.string vg) (.bool vs) (.pointer (some ⟨nb, 0, none⟩)); replace hst2 := Lib.hid hst2; replace hbw := Lib.hid hbw; replace hb2 := Lib.hid hb2; replace hb3 := Lib.hid hb3; replace hy2 := Lib.hid hy2))
    all_goals
      go_wp2_with (refine bodyPost_ret (res_node (e := .bool true) _ ?_ ?_ hst2.out.1) rfl (Hid.out ?_); iterate 2 simp only [List.getElem?_toArray, List.getElem?_cons_succ, List.getElem?_cons_zero])
      exact Lib.hid (hfin.out _ _ hbw.out hst2.out.2)
  · have hdd : ∀ x, x ∈ T.F → x.1 ≠ (h1, h2) := fun x hx e => hal ⟨x.2, by rw [← e]; exact hx⟩
    have hG := fun W (hW : Below w.heap.size w W) => hA.am.dead hdd W hW
    have hfin : Hid (∀ W W', Below w.heap.size w W → Upd [wk, w.heap.size + 1] W W' → W'.heap[wk]? = some (.cells #[.pointer (some ⟨T.d.A.a, 0, none⟩), .nilFunc, .bool true] 117) → NodeEnd [ν] (StN w0 T C wk ν) s g (h1, h2) w (.returned (.tuple #[.agg #[.string ⟨#[]⟩, .string ⟨#[]⟩, .bool false, .pointer none], .bool false])) W') := Lib.hid fun W W' hW hu hk => by
      have hU : Upd [wk, w.heap.size + 1] w W' := (Upd.of_below hW).trans hu
      have hRU : RU [ν] w W' (mark T.ρ wk ν) (mark T.ρ wk ν) := RU.upd hro2 hU (fun k hk1 hk2 => by
        simp only [List.mem_cons, List.not_mem_nil, or_false] at hk1
        rcases hk1 with hk1 | hk1
        · rw [hk1, mark_self]; simp
        · omega)
      have hA' : AT w0 W' T C := ⟨hA.am.wr hU (fun q hq => by
        simp only [List.mem_cons, List.not_mem_nil, or_false] at hq
        rcases hq with hq | hq
        · rw [hq]; exact ⟨hr.2, hr.1⟩
        · rw [hq]; exact ⟨by have := hA.am.bw.ro.bel.size; omega, hA.am.bw.ro.far _ (by omega)⟩), hA.ok, hA.ct, hA.nm, hA.nb, hA.sz, hA.lim⟩
      exact ⟨_, hst W' hRU, ⟨.inl m0, rfl⟩, .inr ⟨by show ∀ x, x ∈ s.F → _; rw [eF]; exact hdd, rfl, m0, d0, eF, eC, eK, eρ, hA', hr, hk⟩⟩
    replace hG := Lib.hid hG
    replace hwb := Lib.hid hwb
    replace hby := Lib.hid hby
    replace hst := Lib.hid hst
    have hkx := Lib.hid (Below.heap' hB hw)
    have hne : ¬ wk = w.heap.size + 1 := by omega
    clear hA hw hbx hal hdd
    go_enter Tryz.func58, Tryz.ntmps58
    go_upto_region 1 with fail
    rw [← hwb.out]
    go_wp2_with fail
    go_region_held3 (fun W' => W'.cell? ⟨wk, 0, none⟩ = some (.pointer (some ⟨T.d.A.a, 0, none⟩)) ∧ W'.cell? ⟨w.heap.size, 0, none⟩ = some (.int .i64 h1) ∧ W'.cell? ⟨w.heap.size, 1, none⟩ = some (.int .u64 h2)) (first | exact ⟨k0, b0, b1⟩ | exact ⟨i0, i1, i2⟩ | go_keep) (first
      | (go_at_call 51; refine (hG.out _ hB.drew).mono ?_; rintro z w2 ⟨rfl, hb2⟩; have hb3 : Below wb.heap.size wb w2 := bel_dr (k := 1) hb2; have hbw := hB.trans (hb3.mono hB.size); have i0 := keep hb3 k0; have i1 := keep hb3 b0; have i2 := keep hb3 b1; have hk2 := Below.heap' hb3 hkx.out; obtain ⟨x0, x1, x2, xq, xf⟩ := cells3 hk2; have hk3 : (w2.setCell ⟨wk, 2, none⟩ (.bool true)).heap[wk]? = some (.cells #[.pointer (some ⟨T.d.A.a, 0, none⟩), .nilFunc, .bool true] 117) := heap_set_same hk2 2 _; have hy2 := Below.heap' hb3 hby.out; have hy3 := (heap_set_other ⟨wk, 2, none⟩ (.bool true) (fun e => hne e.symm)).trans hy2; have hst2 := an_stored hy3 (.string ⟨#[]⟩) (.string ⟨#[]⟩) (.bool false) (.pointer none); obtain ⟨y0, y1, y2, y3, yq, yf⟩ := cells4 hy2; replace hst2 := Lib.hid hst2; replace hbw := Lib.hid hbw; replace hb2 := Lib.hid hb2; replace hb3 := Lib.hid hb3; replace hy2 := Lib.hid hy2; replace hy3 := Lib.hid hy3; replace hk2 := Lib.hid hk2; replace hk3 := Lib.hid hk3))
    all_goals
      go_wp2_with (refine bodyPost_ret (res_node (e := .bool false) _ ?_ ?_ hst2.out.1) rfl (Hid.out ?_); iterate 2 simp only [List.getElem?_toArray, List.getElem?_cons_succ, List.getElem?_cons_zero])
      refine Lib.hid (hfin.out _ _ hbw.out ?_ (hst2.out.2.heap hk3.out (by simpa using hne)))
      exact (Upd.setCell (Upd.refl _ _) (by simp) _).trans (hst2.out.2.mono (by simp))
theorem AM.fresh (h : AM w0 w T) : ∃ ν, 0 < ν ∧ ∀ k, T.ρ k ≠ ν := by
  refine ⟨1 + ((List.range w.heap.size).map T.ρ).sum, by omega, fun k hk => ?_⟩
  by_cases hlt : k < w.heap.size
  · have := sum_le_of_mem (List.mem_map.2 ⟨k, List.mem_range.2 hlt, rfl⟩ : T.ρ k ∈ (List.range w.heap.size).map T.ρ)
    omega
  · have := h.bw.ro.far k (by omega)
    omega
theorem AM.kidsAt (h : AM w0 w T) {nb : Nat} {L : KL} (hL : T.K nb = some L) : ∃ B, KAt w nb B L := by
  obtain ⟨own, hk⟩ := h.kw
  obtain ⟨B, hB, _⟩ := hk nb L hL
  exact ⟨B, hB⟩
theorem rdr_nil (hν : 0 < ν) : Rdr w0 T.r wk [ν] (StN w0 T C wk ν) where
  h0 := by simp; omega
  ok := fun s g w ⟨_, _, eF, eC, eK, _, hA, _⟩ => by
    rw [eF, eC, eK]
    have := hA.am.freeLen
    exact ⟨hA.ok, hA.ct, hA.am.kid, hA.lim, by omega⟩
  ro := fun s g w ⟨_, _, _, _, _, eρ, hA, hr, hw⟩ => by
    have := heap_lt hw
    rw [eρ]
    exact ⟨hA.am.bw.ro.bel, fun k hk => by rw [mark_other (by omega)]; exact hA.am.bw.ro.old k hk, fun k hk => by rw [mark_other (by omega)]; exact hA.am.bw.ro.far k hk⟩
  again := fun s g w ⟨_, _, _, _, _, _, _, _, hw⟩ => ⟨by rw [cell_of_heap hw]; rfl, heap_lt hw⟩
  kids := fun s g w nb L ⟨_, _, _, _, eK, _, hA, _⟩ hL => hA.am.kidsAt (by rw [← eK]; exact hL)
  wr := fun s g w w' S ⟨m0, d0, eF, eC, eK, eρ, hA, hr, hw⟩ hu hS => by
    rw [eρ] at hS
    have hne : ∀ q, q ∈ S → q ≠ wk := fun q hq e => by
      have := (hS q hq).2
      rw [e, mark_self] at this
      omega
    exact ⟨m0, d0, eF, eC, eK, eρ, ⟨hA.am.wr hu (fun q hq => by
      have := hS q hq
      rw [mark_other (hne q hq)] at this
      exact this), hA.ok, hA.ct, hA.nm, hA.nb, hA.sz, hA.lim⟩, hr, hu.heap hw (fun hm => hne wk hm rfl)⟩
  node := fun s g w h hS _ => node_nil hS h
/-- The start of a reader that is told nothing. -/
theorem AT.reader (h : AT w0 w T C) : ∃ ν, 0 < ν ∧ (∀ k, T.ρ k ≠ ν) ∧ StN w0 T C w.heap.size ν ⟨0, 0, mark T.ρ w.heap.size ν, T.F, C, T.K, 0⟩ false (w.alloc (.cells #[.pointer (some ⟨T.d.A.a, 0, none⟩), .nilFunc, .bool false] 117)) := by
  obtain ⟨ν, h1, h2⟩ := h.am.fresh
  exact ⟨ν, h1, h2, rfl, rfl, rfl, rfl, rfl, rfl, h.below ((Below.refl _ _).alloc (Nat.le_refl _) _), ⟨h.am.bw.ro.far _ (Nat.le_refl _), h.am.bw.ro.bel.size⟩, heap_alloc_new _ _⟩
theorem rdr_below {w1 : World} {o : Obj} {ρ ρ' : Nat → Nat} (hn : ∀ k, ρ k ≠ ν) (h : RU [ν] (w.alloc o) w1 (mark ρ w.heap.size ν) ρ') : Below w.heap.size w w1 :=
  ⟨h.os, h.tape, h.output, Nat.le_trans (by simp) h.size, fun k hk => by
    have h1 := h.block k (by simp; omega) (by rw [mark_other (by omega)]; simpa using hn k)
    rw [h1]
    exact ((Below.refl w.heap.size w).alloc (Nat.le_refl _) o).block k hk⟩
theorem AT.next (h : AT w0 w T C) (key : Str) (after : Bool) :
    Calls Tryz.prog 27 #[.pointer (some ⟨T.t, 0, none⟩), .string key, .bool after, .nilFunc] w fun e w' => e = .returned (.tuple #[.string (fK (cnext C key after)), .string (fX (cnext C key after)), .bool (cnext C key after).isSome, .bool false]) ∧ Below w.heap.size w w' := by
  obtain ⟨ν, h1, h2, hS⟩ := h.reader
  obtain ⟨_, c1, c2, c3, _, c5, hq⟩ := h.am.cells
  refine (next_gen (.inl rfl) c1 c2 c3 c5 hq (rdr_nil h1) hS (by simp) (by unfold bS KM; simp) key after).mono ?_
  rintro e w' ⟨s', g', f, again, rfl, hS', hst, _, hex⟩
  obtain ⟨rfl, rfl⟩ := hex (hS'.2.1.trans rfl)
  exact ⟨rfl, rdr_below h2 hst.ru⟩
theorem AT.get (h : AT w0 w T C) (key : Str) (hk : key.size ≤ big) :
    Calls Tryz.prog 26 #[.pointer (some ⟨T.t, 0, none⟩), .string key, .nilFunc] w fun e w' => e = .returned (.tuple #[.string ((cget C key).getD s0), .bool (cget C key).isSome, .bool false]) ∧ Below w.heap.size w w' := by
  obtain ⟨ν, h1, h2, hS⟩ := h.reader
  obtain ⟨_, c1, c2, c3, _, c5, hq⟩ := h.am.cells
  refine (get_gen (.inl rfl) c1 c2 c3 c5 hq (rdr_nil h1) hS key hk (by unfold big at hk; unfold KM; simp only; omega)).mono ?_
  rintro e w' ⟨s', g', v, found, again, rfl, hS', hst, _, hex⟩
  obtain ⟨rfl, rfl, rfl⟩ := hex (hS'.2.1.trans rfl)
  exact ⟨rfl, rdr_below h2 hst.ru⟩
end
end Go.Proofs.YtmhlokomlngdmaaGreat
