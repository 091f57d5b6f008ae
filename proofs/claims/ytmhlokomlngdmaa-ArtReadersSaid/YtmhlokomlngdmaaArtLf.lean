/- A trie's leaf: a new child for what is left of a key. -/
import Derived.Test.YtmhlokomlngdmaaArtNl
import Derived.Test.YtmhlokomlngdmaaArtDr
namespace Go.Proofs.Ytmhlokomlngdmaa
open Go.RowKit
theorem aset_app {F : AF} {h g : Hd} {n m : AN} (hg : g ≠ h) : aset (F ++ [(g, m)]) h n = aset F h n ++ [(g, m)] := by
  unfold aset
  rw [List.map_append]
  simp [hg]
theorem adel_app {F : AF} {h g : Hd} {m : AN} (hg : g ≠ h) : adel (F ++ [(g, m)]) h = adel F h ++ [(g, m)] := by
  unfold adel
  rw [List.filter_append]
  simp [hg]
section
variable {w0 w w' w1 : World} {T T1 : TS} {C : Cont} {x : Hd × AN}
def LeafEnd (w0 w : World) (T : TS) (x : Hd × AN) (b : UInt8) (tl : Byt) (v : Str) (e : Ending) (w' : World) : Prop :=
  e = .returned (.tuple #[]) ∧ ∃ T' g nb, AM w0 w' T' ∧ TEv w w' T T' ∧ T'.F = aset T.F x.1 { x.2 with kids := kput x.2.kids b g } ++ [(g, ⟨x.2.path ++ b :: tl, bs tl, some v, [], nb⟩)] ∧
    (∀ z, z ∈ T.F → z.1 ≠ g ∧ z.2.nb ≠ nb) ∧ T'.n = T.n + 1 ∧ T'.free.count true + 1 = T.free.count true
/-- The world between: the new node lies in the arena. -/
def LeafMid (w0 w : World) (T : TS) (x : Hd × AN) (b : UInt8) (tl : Byt) (v : Str) (T2 : TS) (g : Hd) (nb : Nat) (wz : World) : Prop :=
  AM w0 wz T2 ∧ TEv w wz T T2 ∧ T2.F = T.F ++ [(g, ⟨x.2.path ++ b :: tl, bs tl, some v, [], nb⟩)] ∧ (∀ z, z ∈ T.F → z.1 ≠ g ∧ z.2.nb ≠ nb) ∧ T2.n = T.n ∧ T2.free.count true + 1 = T.free.count true
theorem LeafMid.below {b : UInt8} {tl : Byt} {v : Str} {T2 : TS} {g : Hd} {nb : Nat} {wz : World} (h : LeafMid w0 w T x b tl v T2 g nb wz) (hb : Below wz.heap.size wz w') : LeafMid w0 w T x b tl v T2 g nb w' :=
  ⟨h.1.below hb, h.2.1.trans (TEv.below h.1 hb), h.2.2⟩
/-- The children are made. -/
def LeafNew (w0 w : World) (T : TS) (T1 : TS) (nb : Nat) (wz : World) : Prop :=
  AM w0 wz T1 ∧ TEv w wz T T1 ∧ T1.F = T.F ∧ T1.K = updK T.K nb [] ∧ T1.n = T.n ∧ T1.free = T.free ∧ T1.d = T.d ∧ ∀ z, z ∈ T.F → z.2.nb ≠ nb
theorem LeafNew.below {T1 : TS} {nb : Nat} {wz : World} (h : LeafNew w0 w T T1 nb wz) (hb : Below wz.heap.size wz w') : LeafNew w0 w T T1 nb w' := ⟨h.1.below hb, h.2.1.trans (TEv.below h.1 hb), h.2.2⟩
theorem new_dw (w : World) (o : Obj) : (w.drew.alloc o).heap[w.heap.size]? = some o := heap_alloc_new w.drew o
theorem TEv.keep {q : Nat} {o : Obj} (h : TEv w w' T T1) (hq : w.heap[q]? = some o) (h0 : T.ρ q = 0) : w'.heap[q]? = some o ∧ T1.ρ q = 0 :=
  ⟨h.ru.heap hq (by rw [h0]; simp; omega), (h.ru.role _ (heap_lt hq)).trans h0⟩
theorem TEv.own {S : List Nat} (h : TEv w w1 T T1) (ha : AM w0 w1 T1) (hu : Upd S w1 w') (hS : ∀ q, q ∈ S → w.heap.size ≤ q) : TEv w w' T T1 := by
  refine ⟨⟨hu.os.trans h.ru.os, hu.tape.trans h.ru.tape, hu.output.trans h.ru.output, Nat.le_trans h.ru.size hu.size, fun k hk hn => ?_, h.ru.role, fun k hk => ha.bw.ro.far k (Nat.le_trans hu.size hk)⟩, h.P, h.i, h.t, h.r, h.a, h.m, h.kd, h.dl, h.dj, h.fl⟩
  rw [hu.block k (Nat.lt_of_lt_of_le hk h.ru.size) (fun hm => by have := hS k hm; omega)]
  exact h.ru.block k hk hn
theorem TEv.cell1 (h : TEv w w' T T1) (ha : AM w0 w' T1) : w'.cell? ⟨T.t, 1, none⟩ = some (.pointer (some ⟨T.d.A.a, 0, none⟩)) := by
  obtain ⟨_, c1, _⟩ := ha.cells
  rw [h.t, h.a] at c1
  exact c1
theorem LeafMid.own {S : List Nat} {b : UInt8} {tl : Byt} {v : Str} {T2 : TS} {g : Hd} {nb : Nat} {wz : World} (h : LeafMid w0 w T x b tl v T2 g nb wz) (hw : w0.heap.size ≤ w.heap.size) (hu : Upd S wz w') (hS : ∀ q, q ∈ S → w.heap.size ≤ q ∧ T2.ρ q = 0) : LeafMid w0 w T x b tl v T2 g nb w' :=
  ⟨h.1.wr hu (fun q hq => ⟨Nat.le_trans hw (hS q hq).1, (hS q hq).2⟩), h.2.1.own h.1 hu (fun q hq => (hS q hq).1), h.2.2⟩
theorem AM.newKids (h : AM w0 w T) (W : World) (hW : Below w.heap.size w W) :
    Calls Try.prog 41 #[] W fun e w' => ∃ nb T1, e = .returned (.pointer (some ⟨nb, 0, none⟩)) ∧ LeafNew w0 w T T1 nb w' ∧ TEv W w' T T1 ∧ Below W.heap.size W w' := by
  refine (anNew_any W).mono ?_
  rintro e w' ⟨rfl, hk, hb, hs⟩
  obtain ⟨T1, q1, q2, q3, q4, q5, q6, q7, _, q8⟩ := (h.below hW).knew hb hk (fun q hq => by simp at hq; omega)
  exact ⟨_, T1, rfl, ⟨q1, (TEv.below h hW).trans q2, q3, q4, q5, q6, q7, q8⟩, q2, hb⟩
theorem LeafNew.alloc {T1 : TS} {nb : Nat} {wz : World} (h : LeafNew w0 w T T1 nb wz) (x : Hd × AN) (b : UInt8) (tl : Byt) (v : Str) (hfr : true ∈ T.free) :
    ∃ g, Calls Try.prog 40 #[.pointer (some ⟨T.d.A.a, 0, none⟩), .agg #[.string (bs tl), .string v, .bool true, .pointer (some ⟨nb, 0, none⟩)]] wz fun y w' =>
      y = .returned (.tuple #[hV g, .int .i64 0]) ∧ ∃ T2, LeafMid w0 w T x b tl v T2 g nb w' ∧ TEv wz w' T1 T2 := by
  obtain ⟨q1, q2, q3, q4, q5, q6, q7, q8⟩ := h
  obtain ⟨g, g1, g2⟩ := q1.alloc ⟨x.2.path ++ b :: tl, bs tl, some v, [], nb⟩ (by rw [q4]; exact updK_self) (by rw [q6]; exact hfr)
  refine ⟨g, ?_⟩
  rw [q7] at g2
  refine g2.mono ?_
  rintro y w' ⟨rfl, T2, r1, r2, r3, r4, r5, r6⟩
  exact ⟨rfl, T2, ⟨r1, q2.trans r2, by rw [r3, q3], fun z hz => ⟨g1 z (by rw [q3]; exact hz), q8 z hz⟩, r5.trans q5, by rw [r6, q6]⟩, r2⟩
set_option maxRecDepth 100000 in
set_option maxHeartbeats 1000000 in
theorem AM.leaf (h : AM w0 w T) (hx : x ∈ T.F) (hnd : (T.F.map (·.2.nb)).Nodup) (hks : KSort x.2.kids) {key v : Str} {b : UInt8} {tl : Byt} (hbt : bl key = b :: tl) (hfr : true ∈ T.free) (hn : T.n ≤ 100000) :
    Calls Try.prog 45 #[.pointer (some ⟨T.t, 0, none⟩), hV x.1, .string key, .string v] w (LeafEnd w0 w T x b tl v) := by
  have hsz := bl_size key
  rw [hbt, List.length_cons] at hsz
  have ga : ∀ W, (Instr.index 9 (.string key) (.int .i64 0)).run Try.prog W = .ok (.int .u8 b.toNat) W := fun W => index_at (q := []) hbt rfl W
  obtain ⟨t1, ht1⟩ : ∃ t1, t1 = bs tl := ⟨_, rfl⟩
  have hsl : ∀ W, (Instr.slice 9 (.string key) (some (.int .i64 1)) none none).run Try.prog W = .ok (.string t1) W := fun W => by
    rw [run_slice_string_l (t := 9) (s := key) (ht := Try.underlying9) W .i64 1 (by omega) (by omega)]
    congr 2
    rw [ht1]
    apply bl_inj
    rw [bl_bs]
    show (key.extract 1 key.size).data.toList = tl
    rw [ByteArray.data_extract, Array.toList_extract]
    show (bl key).extract 1 key.size = tl
    rw [hbt, List.extract_eq_take_drop, ← hsz]
    simp
  obtain ⟨⟨g1, g2⟩, n⟩ := x
  obtain ⟨wb, hwb⟩ : ∃ wb, wb = w.alloc (.cells #[.int .i64 g1, .int .u64 g2] 57) := ⟨_, rfl⟩
  have hB : Below w.heap.size w wb := by rw [hwb]; exact (Below.refl _ _).alloc (Nat.le_refl _) _
  have hbx : wb.heap[w.heap.size]? = some (.cells #[.int .i64 g1, .int .u64 g2] 57) := by rw [hwb]; exact heap_alloc_new _ _
  have hr0 : T.ρ w.heap.size = 0 := h.bw.ro.far _ (Nat.le_refl _)
  have hb := h.below hB
  obtain ⟨_, c1, _, _, _, _, hq⟩ := hb.cells
  have hNew := Lib.hid fun W (hW : Below wb.heap.size wb W) => hb.newKids W hW
  have hlt := Nat.le_refl wb.heap.size
  replace hB := Lib.hid hB
  replace hwb := Lib.hid hwb
  replace hbx := Lib.hid hbx
  replace hb := Lib.hid hb
  replace hr0 := Lib.hid hr0
  replace hbt := Lib.hid hbt
  replace hsz := Lib.hid hsz
  replace ht1 := Lib.hid ht1
  replace hks := Lib.hid hks
  replace hnd := Lib.hid hnd
  replace hx := Lib.hid hx
  replace hfr := Lib.hid hfr
  replace h := Lib.hid h
  clear hlt
  go_enter Try.func45, Try.ntmps45
  go_upto_region 1 with fail
  rw [← hwb.out]
  go_cut [8, 9] (fun v8 v9 wz => ∃ QB g nb T2, v8 = .pointer (some ⟨QB, 0, none⟩) ∧ wb.heap.size ≤ QB ∧ T2.ρ QB = 0 ∧ wz.heap[QB]? = some (.cells #[.int .i64 g.1, .int .u64 g.2] 57) ∧ LeafMid w0 wb T ((g1, g2), n) b tl v T2 g nb wz)
  case first =>
    have hne := World.new_ne wb _ c1
    have hnt : ¬ T.t = wb.heap.size := fun e => hne e.symm
    go_region_held3 (fun W' => W'.cell? ⟨T.t, 1, none⟩ = some (.pointer (some ⟨T.d.A.a, 0, none⟩))) (first | exact c1 | exact i1 | exact j1 | exact j2 | go_keep) (first
      | (go_at_call 41; refine (hNew.out _ (bel_dwa _)).mono ?_; rintro e w1 ⟨nb, T1, rfl, hN, hev, hb1⟩; have i1 := hev.cell1 hN.1; have qx := Below.heap' hb1 (new_dw wb _); have qr := (hev.ru.role _ (heap_lt (new_dw wb (.cells #[.int .i64 0, .int .u64 0] 57)))).trans (hb.out.bw.ro.far _ (Nat.le_refl _)); replace qx := Lib.hid qx; replace qr := Lib.hid qr; replace hN := Lib.hid hN; replace hev := Lib.hid hev; replace hb1 := Lib.hid hb1)
      | (go_at_call 41; refine (hNew.out _ bel_dw).mono ?_; rintro e w1 ⟨nb, T1, rfl, hN, hev, hb1⟩; have i1 := hev.cell1 hN.1; have hne1 := World.new_ne w1 _ i1; replace hN := Lib.hid hN; replace hev := Lib.hid hev; replace hb1 := Lib.hid hb1)
      | (go_at_call 40; obtain ⟨g, hAl⟩ := hN.out.alloc ((g1, g2), n) b tl v hfr.out; rw [← ht1.out] at hAl; refine hAl.mono ?_; rintro y w2 ⟨rfl, T2, hM, hev2⟩; have i1 := hM.2.1.cell1 hM.1; have q2 := hev2.keep qx.out qr.out; obtain ⟨p0, p1, pq, pf⟩ := cells2 q2.1; replace q2 := Lib.hid q2; replace hM := Lib.hid hM; replace hev2 := Lib.hid hev2; replace hAl := Lib.hid hAl)
      | (go_at_call 40; obtain ⟨g, hAl⟩ := hN.out.alloc ((g1, g2), n) b tl v hfr.out; rw [← ht1.out] at hAl; refine hAl.mono ?_; rintro y w2 ⟨rfl, T2, hM, hev2⟩; have i1 := hM.2.1.cell1 hM.1; have hne2 := World.new_ne w2 _ i1; replace hM := Lib.hid hM; replace hev2 := Lib.hid hev2; replace hAl := Lib.hid hAl)
      | (go_at_call 40; obtain ⟨g, hAl⟩ := (hN.out.below ((Below.refl w1.heap.size w1).alloc (Nat.le_refl _) (.cells #[.int .i64 0, .int .u64 0] 57))).alloc ((g1, g2), n) b tl v hfr.out; rw [← ht1.out] at hAl; refine hAl.mono ?_; rintro y w2 ⟨rfl, T2, hM, hev2⟩; have i1 := hM.2.1.cell1 hM.1; have q2 := hev2.keep (heap_alloc_new w1 _) (hN.out.1.bw.ro.far _ (Nat.le_refl _)); obtain ⟨p0, p1, pq, pf⟩ := cells2 q2.1; replace q2 := Lib.hid q2; replace hM := Lib.hid hM; replace hev2 := Lib.hid hev2; replace hAl := Lib.hid hAl))
    all_goals
      go_wp2_with fail
      go_meet
      first
      | exact ⟨w2.heap.size, g, nb, T2, rfl, hM.out.2.1.ru.size, hM.out.1.bw.ro.far _ (Nat.le_refl _), heap_alloc_new _ _, hM.out.below ((Below.refl _ _).alloc (Nat.le_refl _) _)⟩
      | exact ⟨w1.heap.size, g, nb, T2, rfl, hN.out.2.1.ru.size, q2.out.2, (hd_stored q2.out.1 _ _).1, hM.out.own hb.out.bw.ro.bel.size (hd_stored q2.out.1 _ _).2 (fun q hq => by rw [List.mem_singleton.1 hq]; exact ⟨hN.out.2.1.ru.size, q2.out.2⟩)⟩
      | exact ⟨wb.heap.size, g, nb, T2, rfl, Nat.le_refl _, q2.out.2, (hd_stored q2.out.1 _ _).1, hM.out.own hb.out.bw.ro.bel.size (hd_stored q2.out.1 _ _).2 (fun q hq => by rw [List.mem_singleton.1 hq]; exact ⟨Nat.le_refl _, q2.out.2⟩)⟩
  case rest =>
    obtain ⟨QB, g, nb, T2, rfl, hQ, hQr, hQc, hM⟩ := hcut
    obtain ⟨wd, hwd⟩ : ∃ wd, wd = wc := ⟨_, rfl⟩
    subst hwd
    obtain ⟨hA2, hev2, hF2, hfresh, hn2, hc2⟩ := hM
    have hx2 : ((g1, g2), n) ∈ T2.F := by rw [hF2]; exact List.mem_append_left _ hx.out
    obtain ⟨e, e1, e2, e3, e4, hAt⟩ := hA2.at hx2
    rw [hev2.t] at hAt
    obtain ⟨hbx2, hbr2⟩ := hev2.keep hbx.out hr0.out
    have hun : ∀ z, z ∈ T2.F → z.2.nb = n.nb → z = ((g1, g2), n) := fun z hz he => by
      rw [hF2] at hz
      rcases List.mem_append.1 hz with hz | hz
      · exact nodup_inj hnd.out hz hx.out he
      · simp at hz
        subst hz
        exact absurd he.symm (hfresh _ hx.out).2
    have hrole : T2.ρ e.blk ≠ 5 := by
      have := ((hA2.bw.ars.ar _ _ hA2.hd).th e e1).1
      omega
    obtain ⟨n1, n2, n3, n4, nq, nf⟩ := nx_cells e4
    obtain ⟨b0, b1, bq, bf⟩ := cells2 hbx2
    obtain ⟨p0, p1, pq, pf⟩ := cells2 hQc
    have hSet : ∀ W, Below wd.heap.size wd W → Calls Try.prog 57 #[.pointer (some ⟨n.nb, 0, none⟩), .int .u8 b.toNat, hV g] W fun y w' => y = .returned (.bool (!(kget n.kids b).isSome)) ∧
        (∃ T3, AM w0 w' T3 ∧ TEv W w' T2 T3 ∧ T3.F = aset T2.F (g1, g2) { n with kids := Go.Proofs.Ytmhlokomlngdmaa.kput n.kids b g } ∧ T3.n = T2.n ∧ T3.free = T2.free) ∧ ∀ a u, W.cell? a = some u → T2.ρ a.block ≠ 5 → w'.cell? a = some u := fun W hW => by
      obtain ⟨B, k1, k2, k3⟩ := (hA2.below hW).kput hx2 hun
      refine (anSet_any k1 b g).mono ?_
      rintro y w' ⟨rfl, hE⟩
      obtain ⟨T3, r1, r2, r3, _, r5, r6⟩ := k3 w' _ hE
      exact ⟨rfl, ⟨T3, r1, r2, r3, r5, r6⟩, fun a u ha h5 => hE.2.cell ha (fun hm => h5 (k2 _ hm))⟩
    have hfin : Hid (∀ w4 w5 T3, AM w0 w4 T3 → TEv wd w4 T2 T3 → T3.F = aset T2.F (g1, g2) { n with kids := Go.Proofs.Ytmhlokomlngdmaa.kput n.kids b g } → T3.n = T2.n → T3.free = T2.free → w5 = w4.setCell ⟨T.t, 4, none⟩ (.int .i64 ((T.n : Int) + 1)) → LeafEnd w0 w T ((g1, g2), n) b tl v (.returned (.tuple #[])) w5) := Lib.hid fun w4 w5 T3 a1 a2 a3 a4 a5 a6 => by
      have hblk := a1.blk
      have ht : T3.t = T.t := a2.t.trans hev2.t
      have hset := heap_set_same hblk 4 (.int .i64 ((T.n : Int) + 1))
      have hU : Upd [T3.t] w4 w5 := by rw [a6, ← ht]; exact Upd.setCell (Upd.refl _ _) (by simp) _
      obtain ⟨q1, q2⟩ := a1.size (T.n + 1) hU (by rw [a6, ← ht]; exact hset)
      refine ⟨rfl, { T3 with n := T.n + 1 }, g, nb, q1, ((TEv.below h.out hB.out).trans hev2).trans (a2.trans q2), ?_, hfresh, rfl, ?_⟩
      · show T3.F = _
        rw [a3, hF2, aset_app (fun e => (hfresh _ hx.out).1 e.symm)]
      · show T3.free.count true + 1 = _
        rw [a5]; exact hc2
    have hcel : Hid (∀ w4 T3, AM w0 w4 T3 → TEv wd w4 T2 T3 → T3.n = T2.n → w4.cell? ⟨T.t, 4, none⟩ = some (.int .i64 T.n) ∧ T.t < w4.heap.size ∧ ∀ i, w4.frozen? ⟨T.t, i, none⟩ = false) := Lib.hid fun w4 T3 a1 a2 a3 => by
      have hblk := a1.blk
      rw [a2.t, hev2.t] at hblk
      obtain ⟨_, _, _, _, c4, _, cq⟩ := a1.cells
      rw [a2.t, hev2.t, a3, hn2] at c4
      exact ⟨c4, heap_lt hblk, fun i => frozen_of_heap hblk i⟩
    replace hSet := Lib.hid hSet
    replace hAt := Lib.hid hAt
    generalize e.blk = eb at *
    replace hA2 := Lib.hid hA2
    replace hev2 := Lib.hid hev2
    replace hF2 := Lib.hid hF2
    replace hfresh := Lib.hid hfresh
    replace hn2 := Lib.hid hn2
    replace hc2 := Lib.hid hc2
    replace hun := Lib.hid hun
    replace hx2 := Lib.hid hx2
    clear c1 hNew e4 hbx2 hQc n1 n2 n3
    have hnw : IntKind.i64.wrap ((T.n : Int) + 1) = (T.n : Int) + 1 := IntWalk.i64_in _ (by omega)
    go_upto_region 2 with fail
    go_region_held3 (fun W' => W'.cell? ⟨w.heap.size, 0, none⟩ = some (.int .i64 g1) ∧ W'.cell? ⟨w.heap.size, 1, none⟩ = some (.int .u64 g2) ∧ W'.cell? ⟨QB, 0, none⟩ = some (.int .i64 g.1) ∧ W'.cell? ⟨QB, 1, none⟩ = some (.int .u64 g.2) ∧ W'.cell? ⟨eb, 4, none⟩ = some (.pointer (some ⟨n.nb, 0, none⟩))) (first | exact ⟨b0, b1, p0, p1, n4⟩ | exact ⟨j0, j1, j2, j3, j4⟩ | exact ⟨i0, i1, i2, i3, i4⟩ | go_keep) (first
      | (go_at_call 29; refine (hAt.out _ bel_dw).mono ?_; rintro y w3 ⟨rfl, hb3⟩; have hw3 : Below wd.heap.size wd w3 := bel_dr (k := 1) hb3; have i0 := keep hw3 b0; have i1 := keep hw3 b1; have i2 := keep hw3 p0; have i3 := keep hw3 p1; have i4 := keep hw3 n4; have iq := Nat.lt_of_lt_of_le nq hw3.size; replace hw3 := Lib.hid hw3; replace hb3 := Lib.hid hb3)
      | (go_at_call 57; refine (hSet.out _ hw3.out).mono ?_; rintro y w4 ⟨rfl, ⟨T3, r1, r2, r3, r4, r5⟩, hkp⟩; have j0 := hkp _ _ i0 (fun h => by rw [show T2.ρ w.heap.size = 0 from hbr2] at h; cases h); have j1 := hkp _ _ i1 (fun h => by rw [show T2.ρ w.heap.size = 0 from hbr2] at h; cases h); have j2 := hkp _ _ i2 (fun h => by rw [show T2.ρ QB = 0 from hQr] at h; cases h); have j3 := hkp _ _ i3 (fun h => by rw [show T2.ρ QB = 0 from hQr] at h; cases h); have j4 := hkp _ _ i4 (fun h => hrole h); have hev4 := (TEv.below hA2.out hw3.out).trans r2; obtain ⟨c4, cq, cf⟩ := hcel.out w4 T3 r1 hev4 r4; replace hkp := Lib.hid hkp; replace r1 := Lib.hid r1; replace r2 := Lib.hid r2; replace r3 := Lib.hid r3; replace r4 := Lib.hid r4; replace r5 := Lib.hid r5; replace hev4 := Lib.hid hev4))
    all_goals
      go_wp2_with fail
      exact ⟨rfl, .tuple #[], by simp [results, Try.results45, go_sem], hfin.out w4 _ T3 r1.out hev4.out r3.out r4.out r5.out rfl⟩
end
end Go.Proofs.Ytmhlokomlngdmaa
