/- The contract of a trie's Put. -/
import Derived.Test.YtmhlokomlngdmaaGreatArtSp
namespace Go.Proofs.YtmhlokomlngdmaaGreat
open Go.RowKit
theorem fresh_hd (F : AF) : ∃ g : Hd, ∀ z, z ∈ F → z.1 ≠ g := by
  refine ⟨((((F.map fun z => z.1.1.toNat).sum + 1 : Nat) : Int), 0), fun z hz e => ?_⟩
  have h1 := sum_le_of_mem (List.mem_map.2 ⟨z, hz, rfl⟩ : z.1.1.toNat ∈ F.map fun z => z.1.1.toNat)
  have h2 := congrArg (·.1) e
  simp only at h2
  omega
def PutEnd (w0 w : World) (T : TS) (C : Cont) (key v : Str) (e : Ending) (w' : World) : Prop :=
  ∃ F' m, PutF T.F T.r C key v m F' ∧
    ((m ≤ T.free.count true ∧ e = .returned (.tuple #[.string ((cget C key).getD s0), .bool (cget C key).isSome, .int .i64 0]) ∧ ∃ T', AT w0 w' T' (cput C key v) ∧ TEv w w' T T' ∧ T'.F.length = F'.length ∧ T'.free.count true + m = T.free.count true) ∨
     (T.free.count true < m ∧ e = .returned (.tuple #[.string ⟨#[]⟩, .bool false, .int .i64 5]) ∧ Below w.heap.size w w'))
section
variable {w0 w w' w1 : World} {T T1 : TS} {C : Cont} {x : Hd × AN}
/-- Where a key leaves a node's prefix there is none. -/
theorem no_key {F : AF} {r : Hd} (h : AOK F r) (hc : ACt F C) (hx : x ∈ F) (hr : x.1 ≠ r) {s q t u : Byt} {b : UInt8} (hp : x.2.path = s ++ bl x.2.pre) (hpre : bl x.2.pre = q ++ b :: t) (hu : u = [] ∨ ∃ b2 tl, u = b2 :: tl ∧ b2 ≠ b) {key : Str} (hk : bl key = s ++ q ++ u) : cget C key = none := by
  refine hc.get_none fun z hz he => ?_
  rcases hu with rfl | ⟨b2, tl, rfl, hne⟩
  · exact h.gap hx hr hz hp hpre (by simp) (by rw [he, hk]; simp)
  · obtain ⟨p, hpF, b0, hb0, hpe⟩ := h.base hx hr
    have hs : s = p.2.path ++ [b0] := by
      have := hp.symm.trans hpe
      rw [show p.2.path ++ b0 :: bl x.2.pre = (p.2.path ++ [b0]) ++ bl x.2.pre by simp] at this
      exact List.append_cancel_right this
    have h1 := h.via hpF hz hb0 (m := x.2) hx (by show p.2.path ++ [b0] <+: z.2.path; rw [← hs, he, hk]; exact ⟨q ++ b2 :: tl, by simp⟩)
    rw [he, hk, hp, hpre] at h1
    have h2 := (List.prefix_append_right_inj (s ++ q)).1 (by simpa using h1 : s ++ q ++ b :: t <+: s ++ q ++ b2 :: tl)
    obtain ⟨h3, _⟩ := List.cons_prefix_cons.1 h2
    exact hne h3.symm
theorem split_put (h : AT w0 w T C) {wk : World} (hb : Below w.heap.size w wk) (hx : x ∈ T.F) (hr : x.1 ≠ T.r) {s q t u : Byt} {b : UInt8} (hp : x.2.path = s ++ bl x.2.pre) (hpre : bl x.2.pre = q ++ b :: t) (hu : u = [] ∨ ∃ b2 tl, u = b2 :: tl ∧ b2 ≠ b) {key v : Str} (hk : bl key = s ++ q ++ u) (hkz : key.size ≤ 600)
    {e : Ending} (hE : SplitEnd w0 wk T x s q t b (bs u) v e w') : ∃ z : Int, e = .returned (.int .i64 z) ∧ PutEnd w0 w T C key v (.returned (.tuple #[.string ⟨#[]⟩, .bool false, .int .i64 z])) w' := by
  have hno := no_key h.ok h.ct hx hr hp hpre hu hk
  have hu' : bl (bs u) = u := bl_bs u
  have hsz := cput_len h.ct.srt key v
  rw [hno] at hsz
  have hsz : (cput C key v).length = C.length + 1 := hsz
  rcases hE with ⟨hlt, rfl, hb2⟩ | ⟨hle, rfl, T', g, nb, hfr, hA', hev, hn', hF⟩
  · refine ⟨5, rfl, ?_⟩
    obtain ⟨g, hg⟩ := fresh_hd T.F
    rw [hu'] at hlt
    rcases hu with rfl | ⟨b2, tl, rfl, hne⟩
    · exact ⟨_, 1, put_split h.ok h.ct h.nm hx hr hp hpre (by rw [hk]; simp) hg 0, .inr ⟨by simpa using hlt, rfl, hb.trans (hb2.mono hb.size)⟩⟩
    · obtain ⟨g2, hg2⟩ := fresh_hd (aset T.F x.1 ⟨s ++ q, bs q, none, [(b, g)], 0⟩ ++ [(g, { x.2 with pre := bs t })])
      exact ⟨_, 2, put_split2 h.ok h.ct h.nm hx hr hp hpre hk hne hg 0 0 hg2, .inr ⟨by simpa using hlt, rfl, hb.trans (hb2.mono hb.size)⟩⟩
  · refine ⟨0, rfl, ?_⟩
    rw [hu'] at hle hF
    have hev' := (TEv.below h.am hb).trans hev
    have hres : Ending.returned (.tuple #[.string ⟨#[]⟩, .bool false, .int .i64 0]) = .returned (.tuple #[.string ((cget C key).getD s0), .bool (cget C key).isSome, .int .i64 0]) := by rw [hno]; rfl
    rcases hF with ⟨hu0, hF, hc⟩ | ⟨b2, tl, g2, nb2, hu2, hfr2, hF, hc⟩
    · subst hu0
      have hP := put_split (v := v) h.ok h.ct h.nm hx hr hp hpre (k := key) (by rw [hk]; simp) (fun z hz => (hfr z hz).1) nb
      have hndf := hA'.ndf
      have hFe : T'.F = aset T.F x.1 ⟨s ++ q, bs q, some v, [(b, g)], nb⟩ ++ [(g, { x.2 with pre := bs t })] := hF
      rw [← hFe] at hP
      refine ⟨_, 1, hP, .inl ⟨by simpa using hle, hres, T', ⟨hA', by rw [hev.r]; exact hP.ok, hP.ct, by rw [hev.r]; exact hP.nm, ?_, by rw [hn', hsz, h.sz], hP.lim h.lim hkz⟩, hev', rfl, hc⟩⟩
      rw [hFe] at hndf ⊢
      exact nb_split h.nb hx hfr hndf rfl rfl
    · subst hu2
      have hne : b2 ≠ b := by
        rcases hu with hu | ⟨b3, tl3, hu, hne⟩
        · cases hu
        · injection hu with h1 _; rw [h1]; exact hne
      have hP := put_split2 (v := v) h.ok h.ct h.nm hx hr hp hpre (k := key) hk hne (fun z hz => (hfr z hz).1) nb nb2 (fun z hz => (hfr2 z hz).1)
      have hndf := hA'.ndf
      have hFe : T'.F = aset (aset T.F x.1 ⟨s ++ q, bs q, none, [(b, g)], nb⟩ ++ [(g, { x.2 with pre := bs t })]) x.1 ⟨s ++ q, bs q, none, kput [(b, g)] b2 g2, nb⟩ ++ [(g2, ⟨s ++ q ++ b2 :: tl, bs tl, some v, [], nb2⟩)] := hF
      rw [← hFe] at hP
      refine ⟨_, 2, hP, .inl ⟨by simpa using hle, hres, T', ⟨hA', by rw [hev.r]; exact hP.ok, hP.ct, by rw [hev.r]; exact hP.nm, ?_, by rw [hn', hsz, h.sz], hP.lim h.lim hkz⟩, hev', rfl, hc⟩⟩
      rw [hFe] at hndf ⊢
      have hx2 : (x.1, (⟨s ++ q, bs q, none, [(b, g)], nb⟩ : AN)) ∈ aset T.F x.1 ⟨s ++ q, bs q, none, [(b, g)], nb⟩ ++ [(g, { x.2 with pre := bs t })] := List.mem_append_left _ ((mem_aset ⟨x.2, hx⟩).2 (.inl rfl))
      have hnd0 : (List.map (fun z : Hd × AN => z.1) (aset (aset T.F x.1 ⟨s ++ q, bs q, none, [(b, g)], nb⟩ ++ [(g, { x.2 with pre := bs t })]) x.1 ⟨s ++ q, bs q, none, kput [(b, g)] b2 g2, nb⟩)).Nodup := by
        rw [List.map_append, List.nodup_append] at hndf
        exact hndf.1
      have hnd1 : (List.map (fun z : Hd × AN => z.1) (aset T.F x.1 ⟨s ++ q, bs q, none, [(b, g)], nb⟩ ++ [(g, { x.2 with pre := bs t })])).Nodup := by rw [aset_fst] at hnd0; exact hnd0
      have hnd2 := nb_split h.nb hx hfr hnd1 rfl rfl
      refine nb_app (nb_set (x := (x.1, ⟨s ++ q, bs q, none, [(b, g)], nb⟩)) hnd2 hnd1 hx2 rfl) fun z hz => ?_
      rcases (mem_aset ⟨_, hx2⟩).1 hz with rfl | ⟨_, hz⟩
      · exact (hfr2 _ hx2).2
      · exact (hfr2 z hz).2
theorem SplitEnd.keep {s q t : Byt} {b : UInt8} {key v : Str} {e : Ending} {p : Nat} {o : Obj} (hE : SplitEnd w0 w T x s q t b key v e w') (hq : w.heap[p]? = some o) (h0 : T.ρ p = 0) : w'.heap[p]? = some o := by
  rcases hE with ⟨_, _, hb⟩ | ⟨_, _, T', _, _, _, _, hev, _⟩
  · exact Below.heap' hb hq
  · exact (hev.keep hq h0).1
theorem put_nil (key v : Str) (w : World) : Calls Tryz.prog 18 #[.pointer none, .string key, .string v] w fun e w' => e = .returned (.tuple #[.string ⟨#[]⟩, .bool false, .int .i64 2]) ∧ w = w' := by
  go_enter Tryz.func18, Tryz.ntmps18
  go_wp2
  refine bodyPost_ret (v := .tuple #[.string ⟨#[]⟩, .bool false, .int .i64 2]) (by simp [results, Tryz.results18, go_sem]) rfl ⟨rfl, rfl⟩
theorem res_put {W : World} (tmps : Array Value) (a b c : Value) (h6 : tmps[6]? = some a) (h7 : tmps[7]? = some b) (h8 : tmps[8]? = some c) : (results Tryz.f18 tmps).run Tryz.prog W = .ok (.tuple #[a, b, c]) W := by
  simp [results, Tryz.results18, go_sem, h6, h7, h8]
set_option maxRecDepth 100000 in
set_option maxHeartbeats 16000000 in
theorem AT.put (h : AT w0 w T C) (key v : Str) (hkz : key.size ≤ 600) (hC : C.length ≤ 100000) :
    Calls Tryz.prog 18 #[.pointer (some ⟨T.t, 0, none⟩), .string key, .string v] w (PutEnd w0 w T C key v) := by
  obtain ⟨c0, c1, c2, c3, _, c5, hq⟩ := h.am.cells
  have hO := Lib.hid (out_ok c1 c5)
  obtain ⟨rn, hrn, hrp, hrs⟩ := h.ok.root
  have hstart : ∃ x s, x ∈ T.F ∧ bl key = s ++ bl key ∧ x.2.path = s ++ bl x.2.pre ∧ Below w.heap.size w (w.alloc (.cells #[.int .i64 T.r.1, .int .u64 T.r.2] 77)) ∧ (w.alloc (.cells #[.int .i64 T.r.1, .int .u64 T.r.2] 77)).heap[w.heap.size]? = some (.cells #[.int .i64 x.1.1, .int .u64 x.1.2] 77) :=
    ⟨(T.r, rn), [], hrn, rfl, by rw [hrp, hrs]; rfl, (Below.refl _ _).alloc (Nat.le_refl _) _, heap_alloc_new _ _⟩
  have hnsz := Lib.hid h.sz
  replace h := Lib.hid h
  replace hstart := Lib.hid hstart
  clear hrn hrp hrs
  go_enter Tryz.func18, Tryz.ntmps18
  go_wp2_with fail
  refine hO.out.mono ?_
  clear hO
  rintro e w1 ⟨rfl, rfl⟩
  go_upto_region 6 with fail
  go_loopg [1] (key.size + 1) (fun gk v1 wr => ∃ (k1 : Str) (x : Hd × AN) (s : Byt), gk = k1.size + 1 ∧ v1 = .string k1 ∧ k1.size ≤ 600 ∧ x ∈ T.F ∧ bl key = s ++ bl k1 ∧ x.2.path = s ++ bl x.2.pre ∧ Below w.heap.size w wr ∧ wr.heap[w.heap.size]? = some (.cells #[.int .i64 x.1.1, .int .u64 x.1.2] 77))
  case atStart =>
    obtain ⟨x, s, h1, h2, h3, h4, h5⟩ := hstart.out
    exact ⟨key, x, s, rfl, rfl, hkz, h1, h2, h3, h4, h5⟩
  case round =>
    clear hstart c2 c3
    obtain ⟨k1, x, s, rfl, rfl, hk1, hx, hs1, hs2, hBw, hHB⟩ := hrel
    have hA := h.out.below hBw
    obtain ⟨e, e1, e2, e3, e4, hAt⟩ := hA.am.at hx
    replace hAt := hAt wr (Below.refl _ _)
    obtain ⟨b0, b1, bq, bf⟩ := cells2 hHB
    have hpl : x.2.pre.size ≤ 600 := Nat.le_trans (hA.ok.pre_le hx) (hA.lim _ hx)
    have hC1 := fun W => common_any x.2.pre k1 W (by omega)
    have hnx := Lib.hid fun W (hW : Below wr.heap.size wr W) => nx_cells (Below.heap' hW e4)
    have hspl := split3 (bl x.2.pre) (bl k1)
    obtain ⟨⟨g1, g2⟩, n⟩ := x
    simp only at hpl hC1 hnx hspl hs2 hHB b0 b1
    obtain ⟨c, hc⟩ : ∃ c, c = (cpre (bl n.pre) (bl k1)).length := ⟨_, rfl⟩
    rw [← hc] at hC1 hspl
    have hnxe := Lib.hid fun W (hW : Below wr.heap.size wr W) => Below.heap' hW e4
    obtain ⟨eb, heb⟩ : ∃ eb, eb = e.blk := ⟨_, rfl⟩
    rw [← heb] at hAt hnx
    replace heb := Lib.hid heb
    replace hA := Lib.hid hA
    replace hC1 := Lib.hid hC1
    replace hBw := Lib.hid hBw
    replace hHB := Lib.hid hHB
    replace hspl := Lib.hid hspl
    replace hc := Lib.hid hc
    have d0 := keep hBw.out c0
    have d1 := keep hBw.out c1
    have dq := Nat.lt_of_lt_of_le hq hBw.out.size
    clear c0 c1 c5 hq e4
    go_wp2_with fail
    refine hAt.mono ?_
    clear hAt
    rintro y w2 ⟨rfl, hb2⟩
    obtain ⟨n1, n2, n3, n4, nq, nf⟩ := hnx.out w2 hb2
    replace hb2 := Lib.hid hb2
    go_wp2_with fail
    refine (hC1.out w2).mono ?_
    rintro y w3 ⟨rfl, hb3⟩
    have hb23 := hb2.out.trans (hb3.mono hb2.out.size)
    clear n1 n2 n3 n4 nq nf
    obtain ⟨n1, n2, n3, n4, nq, nf⟩ := hnx.out w3 hb23
    have hB3 := Lib.hid (hBw.out.trans (hb23.mono hBw.out.size))
    replace hb3 := Lib.hid hb3
    replace hb23 := Lib.hid hb23
    have hsz1 := bl_size n.pre
    have hsz2 := bl_size k1
    have hlt : Hid (decide (c < n.pre.size) = false ↔ ∃ u, bl k1 = bl n.pre ++ u ∧ c = n.pre.size) := Lib.hid ⟨fun hh => by
      have hh := of_decide_eq_false hh
      rcases hspl.out with ⟨q, x, y, a, b, e1, e2, _, e3⟩ | ⟨y, b, e2, e3⟩ | ⟨q, x, y, a, b, e1, e2, _, e3⟩ | ⟨a, e1, e3⟩
      · rw [e1] at hsz1; simp at hsz1; omega
      · exact ⟨_, e2, by omega⟩
      · rw [e1] at hsz1; simp at hsz1; omega
      · have : a = [] := by
          rw [e1, List.length_append] at hsz1
          cases a with
          | nil => rfl
          | cons z a => simp at hsz1; omega
        subst this
        exact ⟨[], by rw [e1]; simp, by rw [e1] at hsz1; simp at hsz1; omega⟩, fun ⟨u, h1, h2⟩ => decide_eq_false (by omega)⟩
    cases hcl : decide (c < n.pre.size) with
    | true =>
      have hcs := of_decide_eq_true hcl
      obtain ⟨q, b, t, u, e5, e6, e7, hu⟩ : ∃ q b t u, bl n.pre = q ++ b :: t ∧ bl k1 = q ++ u ∧ c = q.length ∧ (u = [] ∨ ∃ b2 tl, u = b2 :: tl ∧ b2 ≠ b) := by
        rcases hspl.out with ⟨q, x, y, a, d, e1, e2, h3, e3⟩ | ⟨y, d, e2, e3⟩ | ⟨q, x, y, a, d, e1, e2, h3, e3⟩ | ⟨a, e1, e3⟩
        · exact ⟨q, x, a, y :: d, e1, e2, e3, .inr ⟨y, d, rfl, fun h => by rw [h] at h3; exact absurd h3 (UInt8.lt_irrefl _)⟩⟩
        · omega
        · exact ⟨q, x, a, y :: d, e1, e2, e3, .inr ⟨y, d, rfl, fun h => by rw [h] at h3; exact absurd h3 (UInt8.lt_irrefl _)⟩⟩
        · cases a with
          | nil => rw [e1, List.append_nil] at hsz1; omega
          | cons z a => exact ⟨bl k1, z, a, [], e1, by simp, e3, .inl rfl⟩
      subst e7
      have hr : ((g1, g2), n).1 ≠ T.r := fun hh => by
        have h1 := (h.out.ok.root_pre hx hh).1
        simp only at h1
        rw [h1] at hcs
        exact absurd hcs (Nat.not_lt_zero _)
      have hkk : bl key = s ++ q ++ u := by rw [hs1, e6]; simp
      have hsl : ∀ W, (Instr.slice 9 (.string k1) (some (.int .i64 (q.length : Nat))) none none).run Tryz.prog W = .ok (.string (bs u)) W := fun W => slice_from e6 rfl W
      obtain ⟨su, hsu⟩ : ∃ su, su = bs u := ⟨_, rfl⟩
      rw [← hsu] at hsl
      have hSp : ∀ W, Below w3.heap.size w3 W → Calls Tryz.prog 45 #[.pointer (some ⟨T.t, 0, none⟩), .agg #[.int .i64 g1, .int .u64 g2], .int .i64 q.length, .string su, .string v] W (SplitEnd w0 W T ((g1, g2), n) s q t b su v) := fun W hW => (h.out.below (hB3.out.trans (hW.mono hB3.out.size))).am.split hx h.out.nb hs2 e5 (by rw [hnsz.out]; exact hC) (by omega)
      have hfin : Hid (∀ W e4 w4, Below w3.heap.size w3 W → SplitEnd w0 W T ((g1, g2), n) s q t b su v e4 w4 → ∃ z : Int, e4 = .returned (.int .i64 z) ∧ PutEnd w0 w T C key v (.returned (.tuple #[.string ⟨#[]⟩, .bool false, .int .i64 z])) w4) := Lib.hid fun W e4 w4 hW hE => by
        rw [hsu] at hE
        exact split_put h.out (hB3.out.trans (hW.mono hB3.out.size)) hx hr hs2 e5 hu hkk hkz hE
      have hr0 := h.out.am.bw.ro.far _ (Nat.le_refl w.heap.size)
      have hH3 := Below.heap' hb23.out hHB.out
      obtain ⟨b0, b1, bq, bf⟩ := cells2 hH3
      replace hSp := Lib.hid hSp
      replace hH3 := Lib.hid hH3
      replace e5 := Lib.hid e5
      replace e6 := Lib.hid e6
      replace hu := Lib.hid hu
      replace hkk := Lib.hid hkk
      replace hsu := Lib.hid hsu
      replace hs1 := Lib.hid hs1
      replace hs2 := Lib.hid hs2
      replace hx := Lib.hid hx
      replace hsz1 := Lib.hid hsz1
      replace hsz2 := Lib.hid hsz2
      clear hlt d0 d1 dq
      go_upto_region 9 with fail
      go_region_held3 (fun W' => W'.cell? ⟨w.heap.size, 0, none⟩ = some (.int .i64 g1) ∧ W'.cell? ⟨w.heap.size, 1, none⟩ = some (.int .u64 g2)) (first | exact ⟨b0, b1⟩ | exact ⟨i0, i1⟩ | go_keep) (first
        | (go_at_call 45; refine (hSp.out _ bel_dw).mono ?_; rintro e4 w4 hE; obtain ⟨z, rfl, hP⟩ := hfin.out _ _ _ bel_dw hE; have hH4 := hE.keep (Below.heap' bel_dw hH3.out) hr0; obtain ⟨i0, i1, _, _⟩ := cells2 hH4; replace hP := Lib.hid hP; replace hE := Lib.hid hE; replace hH4 := Lib.hid hH4))
      all_goals
        go_wp2_with (refine bodyPost_ret (res_put _ (.string ⟨#[]⟩) (.bool false) (.int .i64 z) ?_ ?_ ?_) rfl (Hid.out ?_); iterate 3 simp only [List.getElem?_toArray, List.getElem?_cons_succ, List.getElem?_cons_zero])
        exact Lib.hid hP.out
    | false =>
      obtain ⟨u, hu, hcu⟩ := hlt.out.1 hcl
      subst hcu
      have hsl : ∀ W, (Instr.slice 9 (.string k1) (some (.int .i64 (n.pre.size : Nat))) none none).run Tryz.prog W = .ok (.string (bs u)) W := fun W => slice_from hu (by rw [hsz1]) W
      obtain ⟨su, hsu⟩ : ∃ su, su = bs u := ⟨_, rfl⟩
      rw [← hsu] at hsl
      have hbu : bl su = u := by rw [hsu, bl_bs]
      have hkp : bl key = n.path ++ u := by rw [hs1, hu, hs2]; simp
      have hr0 := h.out.am.bw.ro.far _ (Nat.le_refl w.heap.size)
      have hA3 := h.out.below hB3.out
      have e4' := hnx.out
      have hH3 := Below.heap' hb23.out hHB.out
      have d0 := keep hb23.out d0
      have d1 := keep hb23.out d1
      have dq := Nat.lt_of_lt_of_le dq hb23.out.size
      have hsu2 := bl_size su
      rw [hbu] at hsu2
      have hkz1 : su.size + n.pre.size = k1.size := by
        have h1 := congrArg List.length hu
        rw [List.length_append] at h1
        omega
      replace hsu := Lib.hid hsu
      replace hu := Lib.hid hu
      replace hlt := Lib.hid hlt
      replace hs1 := Lib.hid hs1
      replace hs2 := Lib.hid hs2
      replace hsz1 := Lib.hid hsz1
      replace hsz2 := Lib.hid hsz2
      replace hsu2 := Lib.hid hsu2
      replace hkz1 := Lib.hid hkz1
      replace hA3 := Lib.hid hA3
      replace hH3 := Lib.hid hH3
      clear e4' b0 b1 bq bf
      cases u with
      | nil =>
        have hq0 : (ByteArray.toList su).isEmpty = true := by rw [str_eq0]; exact decide_eq_true hbu
        rw [List.append_nil] at hkp
        have hget := hA3.out.ct.get_at hA3.out.ok hx (k := key) hkp
        have hfin : Hid (∀ W w4, Below w3.heap.size w3 W → w4 = (W.setCell ⟨eb, 2, none⟩ (.string v)).setCell ⟨eb, 3, none⟩ (.bool true) → ∃ T', AM w0 w4 T' ∧ TEv w w4 T T' ∧ T'.F = aset T.F (g1, g2) { n with val := some v } ∧ T'.n = T.n ∧ T'.free = T.free) := Lib.hid fun W w4 hW hw4 => by
          have hA := h.out.below (hB3.out.trans (hW.mono hB3.out.size))
          have hc0 : W.heap[eb]? = some (.cells #[.int .u64 e.gen, .string n.pre, .string (n.val.getD s0), .bool n.val.isSome, .pointer (some ⟨n.nb, 0, none⟩)] 129) := by rw [heb.out]; exact hnxe.out W (hb23.out.trans (hW.mono hb23.out.size))
          have hc1 : (W.setCell ⟨eb, 2, none⟩ (.string v)).heap[eb]? = some (.cells #[.int .u64 e.gen, .string n.pre, .string v, .bool n.val.isSome, .pointer (some ⟨n.nb, 0, none⟩)] 129) := heap_set_same hc0 2 _
          have hc2 : w4.heap[eb]? = some (.cells #[.int .u64 e.gen, .string n.pre, .string v, .bool true, .pointer (some ⟨n.nb, 0, none⟩)] 129) := by rw [hw4]; exact heap_set_same hc1 3 _
          have hu : Upd [e.blk] W w4 := by rw [hw4, ← heb.out]; exact Upd.setCell (Upd.setCell (Upd.refl _ _) (by simp) _) (by simp) _
          obtain ⟨T', q1, q2, q3, q4, q5, q6⟩ := hA.am.store hx e1 e2 e3 { n with val := some v } (h.out.am.kid _ hx) hu (by rw [← heb.out]; exact hc2)
          exact ⟨T', q1, (TEv.below h.out.am (hB3.out.trans (hW.mono hB3.out.size))).trans q2, q3, q5, q6⟩
        have hP := put_val (v := v) h.out.ok h.out.ct h.out.nm hx hkp
        have hsz := cput_len h.out.ct.srt key v
        rw [hget] at hsz
        simp only at hsz hP hget
        have hnd := nb_set (m := { n with val := some v }) h.out.nb h.out.am.ndf hx rfl
        have hend : Hid (∀ w6 T6, AM w0 w6 T6 → TEv w w6 T T6 → T6.F = aset T.F (g1, g2) { n with val := some v } → T6.n = (if n.val.isSome then T.n else T.n + 1) → T6.free = T.free → PutEnd w0 w T C key v (.returned (.tuple #[.string (n.val.getD s0), .bool n.val.isSome, .int .i64 0])) w6) := Lib.hid fun w6 T6 a1 a2 a3 a4 a5 => by
          refine ⟨_, 0, hP, .inl ⟨Nat.zero_le _, by rw [hget], T6, ⟨a1, by rw [a3, a2.r]; exact hP.ok, by rw [a3]; exact hP.ct, by rw [a3, a2.r]; exact hP.nm, by rw [a3]; exact hnd, by rw [a4, hsz, hnsz.out], by rw [a3]; exact hP.lim h.out.lim hkz⟩, a2, by rw [a3], by rw [a5]; rfl⟩⟩
        have hteb : T.t ≠ eb := fun hh => by
          have h1 := hA3.out.am.rol
          have h2 := ((hA3.out.am.bw.ars.ar _ _ hA3.out.am.hd).th e e1).1
          rw [hh, heb.out, h2] at h1
          omega
        have hteb2 : ¬ eb = T.t := fun hh => hteb hh.symm
        have hteb1 : ¬ T.t = eb := hteb
        clear hP hsz hget hnd
        replace hkp := Lib.hid hkp
        replace hx := Lib.hid hx
        obtain ⟨nv, hnv⟩ : ∃ nv, nv = n.val.getD s0 := ⟨_, rfl⟩
        obtain ⟨nh, hnh⟩ : ∃ nh, nh = n.val.isSome := ⟨_, rfl⟩
        rw [← hnv] at n2 hend
        rw [← hnh] at n3 hend
        replace hnv := Lib.hid hnv
        replace hnh := Lib.hid hnh
        go_upto_region 12 with fail
        go_quiet (fail)
        have hbq := below_drewN (Below.refl w3.heap.size w3) nq
        have hst := hfin.out _ _ hbq rfl
        have hA5 := hA3.out.below hbq
        have hb5 := hb23.out.trans (hbq.mono hb23.out.size)
        generalize w3.drewN nq = w5 at *
        clear n1 n2 n3 n4 nf d0 d1 dq
        obtain ⟨x1, x2, x3, x4, xq, xf⟩ := hnx.out w5 hb5
        obtain ⟨_, _, _, _, y4, _, yq⟩ := hA5.am.cells
        have yf : ∀ i, w5.frozen? ⟨T.t, i, none⟩ = false := fun i => frozen_of_heap hA5.am.blk i
        obtain ⟨T', t1, t2, t3, t4, t5⟩ := hst
        have hnw : IntKind.i64.wrap ((T.n : Int) + 1) = (T.n : Int) + 1 := IntWalk.i64_in _ (by have := hnsz.out; omega)
        rw [← hnv.out] at x2
        rw [← hnh.out] at x3
        replace hbq := Lib.hid hbq
        replace hb5 := Lib.hid hb5
        replace hA5 := Lib.hid hA5
        cases nh with
        | true =>
          have hE := hend.out _ T' t1 t2 t3 t4 t5
          replace hE := Lib.hid hE
          replace t1 := Lib.hid t1
          replace t2 := Lib.hid t2
          replace t3 := Lib.hid t3
          replace t4 := Lib.hid t4
          replace t5 := Lib.hid t5
          go_wp2_with (refine bodyPost_ret (res_put _ (.string nv) (.bool true) (.int .i64 0) ?_ ?_ ?_) rfl (Hid.out ?_); iterate 3 simp only [List.getElem?_toArray, List.getElem?_cons_succ, List.getElem?_cons_zero])
          all_goals exact Lib.hid hE.out
        | false =>
          have hblk := t1.blk
          have hset := heap_set_same hblk 4 (.int .i64 ((T.n : Int) + 1))
          obtain ⟨q1, q2⟩ := t1.size (T.n + 1) (Upd.setCell (Upd.refl _ _) (by simp) (.int .i64 ((T.n : Int) + 1)) : Upd [T'.t] _ (((w5.setCell ⟨eb, 2, none⟩ (.string v)).setCell ⟨eb, 3, none⟩ (.bool true)).setCell ⟨T'.t, 4, none⟩ (.int .i64 ((T.n : Int) + 1)))) hset
          have hE := hend.out _ _ q1 (t2.trans q2) t3 rfl t5
          rw [t2.t] at hE
          replace hE := Lib.hid hE
          replace t1 := Lib.hid t1
          replace t2 := Lib.hid t2
          replace t3 := Lib.hid t3
          replace t4 := Lib.hid t4
          replace t5 := Lib.hid t5
          clear hblk hset q1 q2
          go_wp2_with (refine bodyPost_ret (res_put _ (.string nv) (.bool false) (.int .i64 0) ?_ ?_ ?_) rfl (Hid.out ?_); iterate 3 simp only [List.getElem?_toArray, List.getElem?_cons_succ, List.getElem?_cons_zero])
          all_goals exact Lib.hid hE.out
      | cons b tl =>
        have hq0 : (ByteArray.toList su).isEmpty = false := by rw [str_eq0, hbu]; rfl
        have ga : ∀ W, (Instr.index 9 (.string su) (.int .i64 0)).run Tryz.prog W = .ok (.int .u8 b.toNat) W := fun W => index_at (q := []) hbu rfl W
        have hsl1 : ∀ W, (Instr.slice 9 (.string su) (some (.int .i64 1)) none none).run Tryz.prog W = .ok (.string (bs tl)) W := fun W => slice_from (q := [b]) hbu rfl W
        obtain ⟨t1, ht1⟩ : ∃ t1, t1 = bs tl := ⟨_, rfl⟩
        rw [← ht1] at hsl1
        have ht1z : t1.size + 1 = su.size := by rw [ht1, ← hsu2.out, List.length_cons]; rfl
        obtain ⟨gh, hgh⟩ : ∃ gh, gh = (kget n.kids b).getD (0, 0) := ⟨_, rfl⟩
        obtain ⟨gf, hgf⟩ : ∃ gf, gf = (kget n.kids b).isSome := ⟨_, rfl⟩
        obtain ⟨Bk, hBk⟩ := hA3.out.am.kidsAt (h.out.am.kid _ hx)
        have hG := fun W (hW : Below w3.heap.size w3 W) => anGet_any (hBk.below hW) b
        simp only at hG
        rw [← hgh, ← hgf] at hG
        have c3f := fun i => frozen_of_heap hH3.out i
        obtain ⟨b0, b1, bq, bf⟩ := cells2 hH3.out
        replace hG := Lib.hid hG
        replace hgh := Lib.hid hgh
        replace hgf := Lib.hid hgf
        replace ht1 := Lib.hid ht1
        replace hbu := Lib.hid hbu
        replace hkp := Lib.hid hkp
        replace hx := Lib.hid hx
        clear hBk c3f
        go_upto_region 17 with fail
        go_cut [12, 13] (fun v12 v13 wz => ∃ GB, v12 = .pointer (some ⟨GB, 0, none⟩) ∧ v13 = .bool gf ∧ wz.heap[GB]? = some (.cells #[.int .i64 gh.1, .int .u64 gh.2] 77) ∧ w3.heap.size ≤ GB ∧ Below w3.heap.size w3 wz)
        case first =>
          have hne := World.new_ne w3 _ n4
          go_region_held3 (fun W => W.cell? ⟨eb, 4, none⟩ = some (.pointer (some ⟨n.nb, 0, none⟩))) (first | exact n4 | exact i3 | go_keep) (first
            | (go_at_call 46; refine (hG.out _ (bel_dwa _)).mono ?_; rintro e w5 ⟨rfl, hb5⟩; have hbw := (bel_dwa _).trans (hb5.mono (bel_dwa _).size); have i3 := keep hbw n4; have hy5 := Below.heap' hb5 (new_dw w3 _); obtain ⟨y50, y51, y5q, y5f⟩ := cells2 hy5; replace hy5 := Lib.hid hy5; replace hbw := Lib.hid hbw; replace hb5 := Lib.hid hb5)
            | (go_at_call 46; refine (hG.out _ bel_dw).mono ?_; rintro e w5 ⟨rfl, hb5⟩; have hbw := bel_dr (k := 1) hb5; have i3 := keep hbw n4; have hne5 := World.new_ne w5 _ i3; replace hbw := Lib.hid hbw; replace hb5 := Lib.hid hb5))
          all_goals
            go_wp2_with fail
            go_meet
            first
            | (have hy := hy5.out
               exact ⟨w3.heap.size, rfl, rfl, (hd_stored hy _ _).1, Nat.le_refl _, hbw.out.trans ((hd_stored hy _ _).2.below hbw.out.size (fun k hk => by simp at hk; omega))⟩)
            | exact ⟨w5.heap.size, rfl, rfl, heap_alloc_new _ _, hbw.out.size, hbw.out.alloc hbw.out.size _⟩
        case rest =>
          obtain ⟨GB, rfl, rfl, hGB, hGq, hbw⟩ := hcut
          obtain ⟨wd, hwd⟩ : ∃ wd, wd = wc := ⟨_, rfl⟩
          rw [← hwd] at hGB hbw ⊢
          clear hwd
          have hB4 := hB3.out.trans (hbw.mono hB3.out.size)
          have hH4 := Below.heap' hbw hH3.out
          have d0 := keep hbw d0
          have d1 := keep hbw d1
          have dq := Nat.lt_of_lt_of_le dq hbw.size
          clear b0 b1 bq bf n1 n2 n3 n4 nq nf
          obtain ⟨b0, b1, bq, bf⟩ := cells2 hH4
          obtain ⟨m0, m1, mq, mf⟩ := cells2 hGB
          cases gf with
          | false =>
            have hkn : kget n.kids b = none := by
              have := hgf.out
              cases hk : kget n.kids b with
              | none => rfl
              | some z => rw [hk] at this; cases this
            have hno : cget C key = none := h.out.ct.get_none fun x hx2 he => by
              rcases h.out.ok.under hx.out hx2 (by rw [he, hkp.out]; exact ⟨_, rfl⟩) with rfl | ⟨y, y1, m, y2, y3, y4⟩
              · rw [hkp.out] at he
                have := congrArg List.length he
                simp at this
              · rw [he, hkp.out, y3] at y4
                have h5 := (List.prefix_append_right_inj _).1 y4
                obtain ⟨h6, _⟩ := List.cons_prefix_cons.1 h5
                exact kget_none_iff.1 hkn y y1 h6
            have hsz := cput_len h.out.ct.srt key v
            rw [hno] at hsz
            have hsz : (cput C key v).length = C.length + 1 := hsz
            have hRm := (h.out.below hB4).am.room 1 wd (Below.refl _ _)
            obtain ⟨rm, hrm⟩ : ∃ rm, rm = decide ((1 : Int) ≤ (T.free.count true : Nat)) := ⟨_, rfl⟩
            rw [← hrm] at hRm
            replace hRm := Lib.hid hRm
            cases rm with
            | false =>
              have hlt0 : T.free.count true < 1 := by have := of_decide_eq_false hrm.symm; omega
              obtain ⟨g, hg⟩ := fresh_hd T.F
              have hend : Hid (∀ w6, Below wd.heap.size wd w6 → PutEnd w0 w T C key v (.returned (.tuple #[.string ⟨#[]⟩, .bool false, .int .i64 5])) w6) := Lib.hid fun w6 hb6 =>
                ⟨_, 1, put_leaf h.out.ok h.out.ct h.out.nm hx.out hkn hkp.out hg 0, .inr ⟨hlt0, rfl, hB4.trans (hb6.mono hB4.size)⟩⟩
              replace hrm := Lib.hid hrm
              replace hB4 := Lib.hid hB4
              replace hH4 := Lib.hid hH4
              replace hGB := Lib.hid hGB
              replace hbw := Lib.hid hbw
              clear hlt0 hsz hno hkn hg
              go_wp2_with fail
              refine hRm.out.mono ?_
              rintro e6 w6 ⟨rfl, hb6⟩
              have hE := Lib.hid (hend.out _ hb6)
              replace hb6 := Lib.hid hb6
              go_wp2_with (refine bodyPost_ret (res_put _ (.string ⟨#[]⟩) (.bool false) (.int .i64 5) ?_ ?_ ?_) rfl (Hid.out ?_); iterate 3 simp only [List.getElem?_toArray, List.getElem?_cons_succ, List.getElem?_cons_zero])
              all_goals exact Lib.hid hE.out
            | true =>
              have hle0 : 1 ≤ T.free.count true := by have := of_decide_eq_true hrm.symm; omega
              have hfr : true ∈ T.free := List.count_pos_iff.1 hle0
              have hL : ∀ W, Below wd.heap.size wd W → Calls Tryz.prog 48 #[.pointer (some ⟨T.t, 0, none⟩), .agg #[.int .i64 g1, .int .u64 g2], .string su, .string v] W (LeafEnd w0 W T ((g1, g2), n) b tl v) := fun W hW => (h.out.below (hB4.trans (hW.mono hB4.size))).am.leaf hx.out h.out.nb (h.out.ok.srt _ hx.out) hbu.out hfr (by rw [hnsz.out]; exact hC)
              have hend : Hid (∀ W e6 w6, Below wd.heap.size wd W → LeafEnd w0 W T ((g1, g2), n) b tl v e6 w6 → PutEnd w0 w T C key v (.returned (.tuple #[.string ⟨#[]⟩, .bool false, .int .i64 0])) w6) := Lib.hid fun W e6 w6 hW hE => by
                obtain ⟨_, T6, g, nb, a1, a2, a3, a4, a5, a6⟩ := hE
                have hP := put_leaf (v := v) h.out.ok h.out.ct h.out.nm hx.out hkn hkp.out (fun z hz => (a4 z hz).1) nb
                rw [← a3] at hP
                have hbW := hB4.trans (hW.mono hB4.size)
                refine ⟨_, 1, hP, .inl ⟨hle0, by rw [hno]; rfl, T6, ⟨a1, by rw [a2.r]; exact hP.ok, hP.ct, by rw [a2.r]; exact hP.nm, ?_, by rw [a5, hsz, hnsz.out], hP.lim h.out.lim hkz⟩, (TEv.below h.out.am hbW).trans a2, rfl, a6⟩⟩
                rw [a3]
                refine nb_app (nb_set (m := { n with kids := Go.Proofs.YtmhlokomlngdmaaGreat.kput n.kids b g }) h.out.nb h.out.am.ndf hx.out rfl) fun z hz => ?_
                rcases (mem_aset ⟨n, hx.out⟩).1 hz with rfl | ⟨_, hz⟩
                · exact (a4 _ hx.out).2
                · exact (a4 z hz).2
              replace hL := Lib.hid hL
              replace hrm := Lib.hid hrm
              replace hB4 := Lib.hid hB4
              replace hH4 := Lib.hid hH4
              replace hGB := Lib.hid hGB
              replace hbw := Lib.hid hbw
              clear hle0 hsz hno hkn hfr
              go_wp2_with fail
              refine hRm.out.mono ?_
              rintro e6 w6 ⟨rfl, hb6⟩
              have b0 := keep hb6 b0
              have b1 := keep hb6 b1
              have bq := Nat.lt_of_lt_of_le bq hb6.size
              go_wp2_with fail
              refine (hL.out w6 hb6).mono ?_
              rintro e7 w7 hE7
              have hr7 := hE7.1
              subst hr7
              have hE := Lib.hid (hend.out _ _ _ hb6 hE7)
              replace hE7 := Lib.hid hE7
              replace hb6 := Lib.hid hb6
              go_wp2_with (refine bodyPost_ret (res_put _ (.string ⟨#[]⟩) (.bool false) (.int .i64 0) ?_ ?_ ?_) rfl (Hid.out ?_); iterate 3 simp only [List.getElem?_toArray, List.getElem?_cons_succ, List.getElem?_cons_zero])
              all_goals exact Lib.hid hE.out
          | true =>
            have hkn : kget n.kids b = some gh := by
              have h1 := hgf.out
              have h2 := hgh.out
              cases hk : kget n.kids b with
              | none => rw [hk] at h1; cases h1
              | some z => rw [hk] at h2; rw [h2]; rfl
            have hmem : (b, gh) ∈ n.kids := (kget_iff (h.out.ok.srt _ hx.out)).1 hkn
            obtain ⟨m, hm1, hm2⟩ := h.out.ok.dn _ hx.out _ hmem
            have hne : ¬ GB = w.heap.size := fun e => by have := heap_lt hH3.out; omega
            have hne2 : ¬ w.heap.size = GB := fun e => hne e.symm
            have hfin : Hid (∀ W, Below wd.heap.size wd W → Below w.heap.size w ((W.setCell ⟨w.heap.size, 0, none⟩ (.int .i64 gh.1)).setCell ⟨w.heap.size, 1, none⟩ (.int .u64 gh.2)) ∧ ((W.setCell ⟨w.heap.size, 0, none⟩ (.int .i64 gh.1)).setCell ⟨w.heap.size, 1, none⟩ (.int .u64 gh.2)).heap[w.heap.size]? = some (.cells #[.int .i64 gh.1, .int .u64 gh.2] 77)) := Lib.hid fun W hW => by
              obtain ⟨s1, s2⟩ := hd_stored (Below.heap' hW hH4) (.int .i64 gh.1) (.int .u64 gh.2)
              have hbW := hB4.trans (hW.mono hB4.size)
              exact ⟨hbW.trans (s2.below hbW.size (fun k hk => by simp at hk; omega)), s1⟩
            have hmz : t1.size + 1 < k1.size + 1 := by have := hkz1.out; omega
            have hbz : t1.size ≤ 600 := by omega
            have hinv : Hid (bl key = n.path ++ [b] ++ bl t1 ∧ m.path = n.path ++ [b] ++ bl m.pre) := Lib.hid ⟨by rw [hkp.out, ht1.out, bl_bs]; simp, by rw [hm2]; simp⟩
            replace hB4 := Lib.hid hB4
            replace hH4 := Lib.hid hH4
            replace hGB := Lib.hid hGB
            replace hbw := Lib.hid hbw
            replace hm1 := Lib.hid hm1
            clear hm2 hmem hkn d0 d1 dq
            go_upto_region 23 with fail
            go_region_held3 (fun W => W.cell? ⟨GB, 0, none⟩ = some (.int .i64 gh.1) ∧ W.cell? ⟨GB, 1, none⟩ = some (.int .u64 gh.2)) (first | exact ⟨m0, m1⟩ | go_keep) (first | fail)
            all_goals
              go_wp2_with fail
              go_roundg (t1.size + 1)
            case rel => exact ⟨t1, (gh, m), n.path ++ [b], rfl, rfl, hbz, hm1.out, hinv.out.1, hinv.out.2, (hfin.out _ bel_dw).1, (hfin.out _ bel_dw).2⟩
            case measure => exact hmz
end
end Go.Proofs.YtmhlokomlngdmaaGreat
