/- A reader of the trie's law, at whose looks things are done: the reader. -/
import Derived.Test.YtmhlokomlngdmaaArtRv
import Derived.Deep.CutBlock
import Derived.Deep.DeepCutAuto
namespace Go.Proofs.Ytmhlokomlngdmaa
open Go.RowKit
def mrk (V : VP) (wk : Nat) (ρ : Nat → Nat) (k : Nat) : Nat := if k = wk ∨ k = V.NB ∨ k = V.DB ∨ k = V.TB then 9 else ρ k
def rsV : List Nat := [1, 2, 3, 4, 5, 9, 10, 12]
structure StV (w0 : World) (V : VP) (wk : Nat) (T : TS) (s : RS) (g : Bool) (w : World) : Prop where
  I : LVI w0 V w T s.C s.k s.d
  F : s.F = T.F
  K : s.K = T.K
  ro : s.ρ = mrk V wk T.ρ
  m : s.m = V.B.length - s.k
  dk : s.d ≤ s.k
  wr : T.ρ wk = 0
  wl : w0.heap.size ≤ wk
  wc : w.heap[wk]? = some (.cells #[.pointer (some ⟨V.a, 0, none⟩), .func (.func 15) #[] (visV V), .bool g] 72)
def SV (w0 : World) (V : VP) (wk : Nat) (s : RS) (g : Bool) (w : World) : Prop := ∃ T, StV w0 V wk T s g w
section
variable {w0 w w1 w' : World} {V : VP} {T T' : TS} {C C' : Cont} {n d d' wk : Nat} {s : RS} {g : Bool}
theorem mrk_zero {ρ : Nat → Nat} {k : Nat} (h : mrk V wk ρ k = 0) : k ≠ wk ∧ k ≠ V.NB ∧ k ≠ V.DB ∧ k ≠ V.TB ∧ ρ k = 0 := by
  unfold mrk at h
  split at h
  · omega
  · rename_i hn
    exact ⟨fun e => hn (.inl e), fun e => hn (.inr (.inl e)), fun e => hn (.inr (.inr (.inl e))), fun e => hn (.inr (.inr (.inr e))), h⟩
theorem LVI.lts (h : LVI w0 V w T C n d) : V.NB < w.heap.size ∧ V.DB < w.heap.size ∧ V.TB < w.heap.size ∧ V.bB < w.heap.size := ⟨heap_lt h.nb, heap_lt h.db, heap_lt h.tb, heap_lt h.bb⟩
theorem LVI.mrkRo (h : LVI w0 V w T C n d) (hw : wk < w.heap.size) (hl : w0.heap.size ≤ wk) (hP : VPok w0 V) : Ro w0 w (mrk V wk T.ρ) := by
  obtain ⟨l1, l2, l3, l4⟩ := h.lts
  have p1 := hP.low.1
  have p2 := hP.low.2
  have p3 := hP.low2.1
  exact ⟨h.tr.am.bw.ro.bel, fun k hk => by unfold mrk; rw [if_neg (by omega)]; exact h.tr.am.bw.ro.old k hk, fun k hk => by unfold mrk; rw [if_neg (by omega)]; exact h.tr.am.bw.ro.far k hk⟩
/-- The law's own blocks, marked. -/
theorem TEv.mrk (hev : TEv w w1 T T') (hi : T.i = 0) (hn : V.NB < w.heap.size ∧ V.DB < w.heap.size ∧ V.TB < w.heap.size ∧ V.bB < w.heap.size) (hw : wk < w.heap.size) : RU rsV w w1 (mrk V wk T.ρ) (mrk V wk T'.ρ) := by
  have h := hev.ru
  rw [hi] at h
  refine ⟨h.os, h.tape, h.output, h.size, fun k hk hm => ?_, fun k hk => ?_, fun k hk => ?_⟩
  · unfold Proofs.Ytmhlokomlngdmaa.mrk at hm
    split at hm
    · exact absurd (by decide : 9 ∈ rsV) hm
    · refine h.block k hk fun hm2 => hm ?_
      simp only [List.mem_cons, List.not_mem_nil, or_false] at hm2
      simp only [rsV, List.mem_cons, List.not_mem_nil, or_false]
      omega
  · unfold Proofs.Ytmhlokomlngdmaa.mrk
    split
    · rfl
    · exact h.role k hk
  · have := h.size
    unfold Proofs.Ytmhlokomlngdmaa.mrk
    rw [if_neg (by omega)]
    exact h.far k hk
/-- Blocks of its own, or of roles that turn, are written behind. -/
theorem RU.ownA {rs S : List Nat} {w wr wr' : World} {ρ ρ' : Nat → Nat} (h : RU rs w wr ρ ρ') (hu : Upd S wr wr') (hS : ∀ k, k ∈ S → w.heap.size ≤ k ∨ ρ k ∈ rs) : RU rs w wr' ρ ρ' :=
  ⟨hu.os.trans h.os, hu.tape.trans h.tape, hu.output.trans h.output, Nat.le_trans h.size hu.size, fun k hk hn => (hu.block k (Nat.lt_of_lt_of_le hk h.size) (fun hh => by rcases hS k hh with h1 | h1; omega; exact hn h1)).trans (h.block k hk hn), h.role, fun k hk => h.far k (Nat.le_trans hu.size hk)⟩
theorem SV.rstep (_hP : VPok w0 V) (hS : StV w0 V wk T s g w) (hst : VStep V w T s.C s.k s.d w1 T' C' d') (_hI : LVI w0 V w1 T' C' (s.k + 1) d') :
    RStep rsV w w1 s ⟨V.B.length - (s.k + 1), d', mrk V wk T'.ρ, T'.F, C', T'.K, s.k + 1⟩ := by
  obtain ⟨⟨wa, hev, hu⟩, h1, h2, h3, h4⟩ := hst
  have hm := hS.m
  refine ⟨?_, by show _ - (s.k + 1) ≤ s.m; omega, h1, fun hd => ?_, fun nb hh => hev.kd nb (by rw [← hS.K]; exact hh), fun hz => h4 (by omega), Nat.le_succ _, fun hn => ?_⟩
  · show RU rsV w w1 s.ρ (mrk V wk T'.ρ)
    rw [hS.ro]
    refine (hev.mrk hS.I.hi hS.I.lts (heap_lt hS.wc)).ownA hu fun k hk => .inr ?_
    simp only [List.mem_cons, List.not_mem_nil, or_false] at hk
    have : mrk V wk T.ρ k = 9 := if_pos (by rcases hk with hk | hk <;> simp [hk])
    rw [this]
    decide
  · obtain ⟨e1, e2⟩ := h3 hd
    exact ⟨by rw [hS.F, e1], e2, by rw [hS.K, e1]⟩
  · have hn' : V.B.length - (s.k + 1) ≠ 0 := hn
    show s.k + 1 + (V.B.length - (s.k + 1)) ≤ s.k + s.m
    omega
theorem StV.below {w2 : World} (h : StV w0 V wk T s g w) (hb : Below w.heap.size w w2) : StV w0 V wk T s g w2 := ⟨h.I.below hb, h.F, h.K, h.ro, h.m, h.dk, h.wr, h.wl, Below.heap' hb h.wc⟩
theorem StV.after (_hP : VPok w0 V) (hS : StV w0 V wk T s g w) (hst : VStep V w T s.C s.k s.d w1 T' C' d') (hI : LVI w0 V w1 T' C' (s.k + 1) d') :
    StV w0 V wk T' ⟨V.B.length - (s.k + 1), d', mrk V wk T'.ρ, T'.F, C', T'.K, s.k + 1⟩ g w1 := by
  obtain ⟨⟨wa, hev, hu⟩, h1, h2, h3, h4⟩ := hst
  obtain ⟨k1, r1⟩ := hev.keep hS.wc hS.wr
  have hdk := hS.dk
  have e1 : wk ≠ V.NB := tag_ne hS.wc hS.I.nb (by decide)
  have e2 : wk ≠ V.DB := tag_ne hS.wc hS.I.db (by decide)
  exact ⟨hI, rfl, rfl, rfl, rfl, by show d' ≤ s.k + 1; omega, r1, hS.wl, hu.heap k1 (by simp [e1, e2])⟩
/-- Blocks of others are written. -/
theorem StV.wrt {S : List Nat} {g' : Bool} {w2 : World} (hP : VPok w0 V) (hS : StV w0 V wk T s g w) (hu : Upd S w w2) (hS1 : ∀ q, q ∈ S → w0.heap.size ≤ q ∧ T.ρ q = 0) (h1 : V.NB ∉ S) (h2 : V.DB ∉ S) (h3 : V.TB ∉ S)
    (hc : w2.heap[wk]? = some (.cells #[.pointer (some ⟨V.a, 0, none⟩), .func (.func 15) #[] (visV V), .bool g'] 72)) : StV w0 V wk T s g' w2 :=
  ⟨hS.I.wr hu hS1 h1 h2 h3 (fun hm => by have := (hS1 _ hm).1; have := hP.low2.2; omega), hS.F, hS.K, hS.ro, hS.m, hS.dk, hS.wr, hS.wl, hc⟩
theorem run_equalIn_func_nil {P : Program} (w : World) (d : Nat) (t : TypeId) {ps rs : Array TypeId} {v : Bool} (g : Fn) (a b : Array Value) (h : P.underlying t = some (.func ps rs v)) :
    (Op.equalIn (d + 1) t (.func g a b) .nilFunc).run P w = .ok false w := by
  simp [Op.equalIn, run_underlying h]
set_option maxRecDepth 100000 in
set_option maxHeartbeats 4000000 in
theorem node_vis (hP : VPok w0 V) (hS : SV w0 V wk s g w) (h : Hd) (hk : s.k + 1 ≤ KM) : Calls Try.prog 32 #[.pointer (some ⟨wk, 0, none⟩), hV h] w (NodeEnd rsV (SV w0 V wk) s g h w) := by
  obtain ⟨T, hS⟩ := hS
  obtain ⟨h1, h2⟩ := h
  have hnf : ∀ W, (binOp .neq 1 (.func (.func 15) #[] (visV V)) .nilFunc).run Try.prog W = .ok (.bool true) W := fun W => by
    simp only [binOp]
    simp [Op.equal, Op.maxDepth, run_equalIn_func_nil W 9999 1 (.func 15) #[] (visV V) Try.underlying1]
  have hen : ∀ args w, (callFunc 15 args).run Try.prog w = .ok (.enter 15 args) w := enters_of Try.func15 (by kernel_rfl) rfl
  obtain ⟨wb, hwb⟩ : ∃ wb, wb = (w.alloc (.cells #[.int .i64 h1, .int .u64 h2] 57)).alloc (.cells #[.string ⟨#[]⟩, .string ⟨#[]⟩, .bool false, .pointer none] 62) := ⟨_, rfl⟩
  obtain ⟨hbx, hby⟩ := heap_two w (.cells #[.int .i64 h1, .int .u64 h2] 57) (.cells #[.string ⟨#[]⟩, .string ⟨#[]⟩, .bool false, .pointer none] 62)
  have hB := below_two w (.cells #[.int .i64 h1, .int .u64 h2] 57) (.cells #[.string ⟨#[]⟩, .string ⟨#[]⟩, .bool false, .pointer none] 62)
  rw [← hwb] at hbx hby hB
  have hSb := hS.below hB
  have hVi := vis_any hP hSb.I hk hS.dk
  have hwc := hSb.wc
  unfold visV at hwc hnf
  obtain ⟨k0, k1, k2, kq, kf⟩ := cells3 hwc
  have hws := hS.I.tr.am.bw.ro.bel.size
  have hr0 : T.ρ w.heap.size = 0 ∧ T.ρ (w.heap.size + 1) = 0 := ⟨hS.I.tr.am.bw.ro.far _ (Nat.le_refl _), hS.I.tr.am.bw.ro.far _ (by omega)⟩
  obtain ⟨l1, l2, l3, l4⟩ := hS.I.lts
  have l5 := heap_lt hS.wc
  have n1 : wk ≠ V.NB := tag_ne hS.wc hS.I.nb (by decide)
  have n2 : wk ≠ V.DB := tag_ne hS.wc hS.I.db (by decide)
  have n3 : wk ≠ V.TB := tag_ne hS.wc hS.I.tb (by decide)
  -- after the visit
  have hAf : Hid (∀ w2 T' C' d', LVI w0 V w2 T' C' (s.k + 1) d' → VStep V wb T s.C s.k s.d w2 T' C' d' →
      ∃ s', RStep rsV w w2 s s' ∧ StV w0 V wk T' s' g w2 ∧ ((s.m = 0 ∨ s'.m + 1 = s.m) ∧ s'.k = s.k + 1) ∧ w2.heap[w.heap.size]? = some (.cells #[.int .i64 h1, .int .u64 h2] 57) ∧ w2.heap[w.heap.size + 1]? = some (.cells #[.string ⟨#[]⟩, .string ⟨#[]⟩, .bool false, .pointer none] 62) ∧ T'.ρ (w.heap.size + 1) = 0) := Lib.hid fun w2 T' C' d' hI hst => by
    have hm := hS.m
    have hR := SV.rstep hP hSb hst hI
    have hA := StV.after hP hSb hst hI
    obtain ⟨⟨wa, hev, hu⟩, _⟩ := hst
    obtain ⟨x1, y1⟩ := hev.keep hbx hr0.1
    obtain ⟨x2, y2⟩ := hev.keep hby hr0.2
    refine ⟨_, ⟨?_, hR.m, hR.d, hR.same, hR.kd, hR.zero, hR.k, hR.km⟩, hA, ⟨?_, rfl⟩, hu.heap x1 (by simp; omega), hu.heap x2 (by simp; omega), y2⟩
    · have hro : Ro w0 w s.ρ := by
        rw [hS.ro]
        exact hS.I.mrkRo l5 hS.wl hP
      exact (RU.below hro hB).trans hR.ru
    · show s.m = 0 ∨ V.B.length - (s.k + 1) + 1 = s.m
      omega
  have hs9 : s.ρ wk = 9 := by rw [hS.ro]; exact if_pos (.inl rfl)
  replace hwb := Lib.hid hwb
  replace hS := Lib.hid hS
  replace hSb := Lib.hid hSb
  clear hbx hby hB hwc
  go_enter Try.func32, Try.ntmps32
  go_upto_region 1 with fail
  rw [← hwb.out]
  go_wp2_with fail
  refine hVi.mono ?_
  clear hVi hen hnf
  rintro e w2 ⟨rfl, T', C', d', hI, hst⟩
  obtain ⟨s', hR, hS2, hmk, hbx, hby, hr1⟩ := hAf.out w2 T' C' d' hI hst
  clear hAf hI hst k0 k1 k2 kq kf
  obtain ⟨b0, b1, bq, bf⟩ := cells2 hbx
  obtain ⟨k0, k1, k2, kq, kf⟩ := cells3 hS2.wc
  have hA := hS2.I.tr
  have hTa : T'.d.A.a = V.a := hS2.I.ha
  by_cases hal : ∃ n, ((h1, h2), n) ∈ T'.F
  · obtain ⟨n, hn⟩ := hal
    obtain ⟨e, _, _, _, e4, hG⟩ := hA.am.get hn
    rw [hTa] at hG
    have hfin : Hid (∀ W W', Below w2.heap.size w2 W → Upd [w.heap.size + 1] W W' → NodeEnd rsV (SV w0 V wk) s g (h1, h2) w (.returned (.tuple #[nV n, .bool true])) W') := Lib.hid fun W W' hW hu => by
      have hu2 : Upd [w.heap.size + 1] w2 W' := (Upd.of_below hW).trans hu
      have hS4 := hS2.wrt (g' := g) hP hu2 (by simp; exact ⟨by omega, hr1⟩) (by simp; omega) (by simp; omega) (by simp; omega) (hu2.heap hS2.wc (by simp; omega))
      exact ⟨s', ⟨hR.ru.ownA hu2 (by simp), hR.m, hR.d, hR.same, hR.kd, hR.zero, hR.k, hR.km⟩, hmk, .inl ⟨n, by rw [hS2.F]; exact hn, rfl, T', hS4⟩⟩
    unfold nV at hfin
    have hcw := Lib.hid fun W (hW : Below w2.heap.size w2 W) => nx_cells (Below.heap' hW e4)
    generalize e.blk = q at *
    replace hG := Lib.hid hG
    replace hS2 := Lib.hid hS2
    replace hR := Lib.hid hR
    replace hby := Lib.hid hby
    replace hA := Lib.hid hA
    obtain ⟨pp, pre, val, kids, nb⟩ := n
    simp only at hcw hfin
    generalize val.getD s0 = vg at *
    generalize val.isSome = vs at *
    clear hbx hn e4
    go_wp2_with fail
    go_region_held3 (fun W' => W'.cell? ⟨wk, 0, none⟩ = some (.pointer (some ⟨V.a, 0, none⟩)) ∧ W'.cell? ⟨w.heap.size, 0, none⟩ = some (.int .i64 h1) ∧ W'.cell? ⟨w.heap.size, 1, none⟩ = some (.int .u64 h2)) (first | exact ⟨k0, b0, b1⟩ | exact ⟨i0, i1, i2⟩ | go_keep) (first
      | (go_at_call 36; refine (hG.out _ (Below.refl _ _).drew).mono ?_; rintro z w3 ⟨rfl, hb2⟩; have hb3 : Below w2.heap.size w2 w3 := bel_dr (k := 1) hb2; have i0 := keep hb3 k0; have i1 := keep hb3 b0; have i2 := keep hb3 b1; obtain ⟨z1, z2, z3, z4, zq, zf⟩ := hcw.out w3 hb3; have hy2 := Below.heap' hb3 hby.out; obtain ⟨y0, y1, y2, y3, yq, yf⟩ := cells4 hy2; have hst2 := an_stored hy2 (.string pre) (.string vg) (.bool vs) (.pointer (some ⟨nb, 0, none⟩)); replace hst2 := Lib.hid hst2; replace hb2 := Lib.hid hb2; replace hb3 := Lib.hid hb3; replace hy2 := Lib.hid hy2))
    all_goals
      go_wp2_with (refine bodyPost_ret (res_node (e := .bool true) _ ?_ ?_ hst2.out.1) rfl (Hid.out ?_); iterate 2 simp only [List.getElem?_toArray, List.getElem?_cons_succ, List.getElem?_cons_zero])
      exact Lib.hid (hfin.out _ _ hb3.out hst2.out.2)
  · have hdd : ∀ x, x ∈ T'.F → x.1 ≠ (h1, h2) := fun x hx e => hal ⟨x.2, by rw [← e]; exact hx⟩
    have hG := fun W (hW : Below w2.heap.size w2 W) => hA.am.dead hdd W hW
    rw [hTa] at hG
    have hfin : Hid (∀ W W', Below w2.heap.size w2 W → Upd [wk, w.heap.size + 1] W W' → W'.heap[wk]? = some (.cells #[.pointer (some ⟨V.a, 0, none⟩), .func (.func 15) #[] (visV V), .bool true] 72) → NodeEnd rsV (SV w0 V wk) s g (h1, h2) w (.returned (.tuple #[.agg #[.string ⟨#[]⟩, .string ⟨#[]⟩, .bool false, .pointer none], .bool false])) W') := Lib.hid fun W W' hW hu hkw => by
      have hu2 : Upd [wk, w.heap.size + 1] w2 W' := (Upd.of_below hW).trans hu
      have hS4 := hS2.wrt (g' := true) hP hu2 (by simp; exact ⟨⟨hS2.wl, hS2.wr⟩, by omega, hr1⟩) (by simp; exact ⟨fun e => n1 e.symm, by omega⟩) (by simp; exact ⟨fun e => n2 e.symm, by omega⟩) (by simp; exact ⟨fun e => n3 e.symm, by omega⟩) hkw
      refine ⟨s', ⟨hR.ru.ownA hu2 (fun q hq => ?_), hR.m, hR.d, hR.same, hR.kd, hR.zero, hR.k, hR.km⟩, hmk, .inr ⟨by rw [hS2.F]; exact hdd, rfl, T', hS4⟩⟩
      simp only [List.mem_cons, List.not_mem_nil, or_false] at hq
      rcases hq with hq | hq
      · rw [hq, hs9]; exact .inr (by decide)
      · exact .inl (by omega)
    replace hG := Lib.hid hG
    have hkx := Lib.hid hS2.wc
    have hne : ¬ wk = w.heap.size + 1 := by omega
    replace hS2 := Lib.hid hS2
    replace hR := Lib.hid hR
    replace hby := Lib.hid hby
    replace hA := Lib.hid hA
    unfold visV at hfin hkx
    obtain ⟨vv, hvv⟩ : ∃ vv, vv = Value.func (.func 15) #[] #[.pointer (some ⟨V.NB, 0, none⟩), .pointer (some ⟨V.bB, 0, none⟩), .pointer (some ⟨V.TB, 0, none⟩), .pointer (some ⟨V.DB, 0, none⟩)] := ⟨_, rfl⟩
    rw [← hvv] at hfin hkx
    clear hbx hal hdd hvv k1
    go_wp2_with fail
    go_region_held3 (fun W' => W'.cell? ⟨wk, 0, none⟩ = some (.pointer (some ⟨V.a, 0, none⟩)) ∧ W'.cell? ⟨w.heap.size, 0, none⟩ = some (.int .i64 h1) ∧ W'.cell? ⟨w.heap.size, 1, none⟩ = some (.int .u64 h2)) (first | exact ⟨k0, b0, b1⟩ | exact ⟨i0, i1, i2⟩ | go_keep) (first
      | (go_at_call 36; refine (hG.out _ (Below.refl _ _).drew).mono ?_; rintro z w3 ⟨rfl, hb2⟩; have hb3 : Below w2.heap.size w2 w3 := bel_dr (k := 1) hb2; have i0 := keep hb3 k0; have i1 := keep hb3 b0; have i2 := keep hb3 b1; have hk2 := Below.heap' hb3 hkx.out; obtain ⟨x0, x1, x2, xq, xf⟩ := cells3 hk2; have hk3 : (w3.setCell ⟨wk, 2, none⟩ (.bool true)).heap[wk]? = some (.cells #[.pointer (some ⟨V.a, 0, none⟩), vv, .bool true] 72) := heap_set_same hk2 2 _; have hy2 := Below.heap' hb3 hby.out; have hy3 := (heap_set_other ⟨wk, 2, none⟩ (.bool true) (fun e => hne e.symm)).trans hy2; have hst2 := an_stored hy3 (.string ⟨#[]⟩) (.string ⟨#[]⟩) (.bool false) (.pointer none); obtain ⟨y0, y1, y2, y3, yq, yf⟩ := cells4 hy2; replace hst2 := Lib.hid hst2; replace hb2 := Lib.hid hb2; replace hb3 := Lib.hid hb3; replace hy2 := Lib.hid hy2; replace hy3 := Lib.hid hy3; replace hk2 := Lib.hid hk2; replace hk3 := Lib.hid hk3))
    all_goals
      go_wp2_with (refine bodyPost_ret (res_node (e := .bool false) _ ?_ ?_ hst2.out.1) rfl (Hid.out ?_); iterate 2 simp only [List.getElem?_toArray, List.getElem?_cons_succ, List.getElem?_cons_zero])
      refine Lib.hid (hfin.out _ _ hb3.out ?_ (hst2.out.2.heap hk3.out (by simpa using hne)))
      exact (Upd.setCell (Upd.refl _ _) (by simp) _).trans (hst2.out.2.mono (by simp))
theorem rdr_vis (hP : VPok w0 V) : Rdr w0 V.r wk rsV (SV w0 V wk) where
  h0 := by decide
  ok := fun s g w ⟨T, h⟩ => by
    have hA := h.I.tr
    have hr := h.I.hr
    rw [h.F, h.K, ← hr]
    have := hA.am.freeLen
    exact ⟨hA.ok, hA.ct, hA.am.kid, hA.lim, by omega⟩
  ro := fun s g w ⟨T, h⟩ => by
    rw [h.ro]
    exact h.I.mrkRo (heap_lt h.wc) h.wl hP
  again := fun s g w ⟨T, h⟩ => ⟨by rw [cell_of_heap h.wc]; rfl, heap_lt h.wc⟩
  kids := fun s g w nb L ⟨T, h⟩ hL => h.I.tr.am.kidsAt (by rw [← h.K]; exact hL)
  wr := fun s g w w' S ⟨T, h⟩ hu hS => by
    rw [h.ro] at hS
    exact ⟨T, h.wrt hP hu (fun q hq => ⟨(hS q hq).1, (mrk_zero (hS q hq).2).2.2.2.2⟩) (fun hm => (mrk_zero (hS _ hm).2).2.1 rfl) (fun hm => (mrk_zero (hS _ hm).2).2.2.1 rfl) (fun hm => (mrk_zero (hS _ hm).2).2.2.2.1 rfl) (hu.heap h.wc (fun hm => (mrk_zero (hS _ hm).2).1 rfl))⟩
  node := fun s g w h hS hk => node_vis hP hS h hk
end
end Go.Proofs.Ytmhlokomlngdmaa
