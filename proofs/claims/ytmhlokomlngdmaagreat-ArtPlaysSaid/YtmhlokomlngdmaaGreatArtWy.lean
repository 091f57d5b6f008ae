/- A trie behind a Delete: all nodes but one are as they must be; join mends it. The way of a trie's Delete: an own slice of steps. -/
import Derived.Test.YtmhlokomlngdmaaGreatArtSp
import Derived.Test.YtmhlokomlngdmaaGreatArtJo
import Derived.Test.YtmhlokomlngdmaaGreatArtNl
import Derived.Test.YtmhlokomlngdmaaGreatArtPu
import Derived.Test.YtmhlokomlngdmaaGreatRow
namespace Go.Proofs.YtmhlokomlngdmaaGreat
open Go.RowKit
structure ATb (w0 w : World) (T : TS) (C : Cont) (x : Hd × AN) : Prop where
  am : AM w0 w T
  ok : AOK T.F T.r
  ct : ACt T.F C
  but : ANbut T.F T.r x.1
  hx : x ∈ T.F
  hk : x.1 = T.r ∨ x.2.val.isSome = true ∨ 1 ≤ x.2.kids.length
  nb : (T.F.map (·.2.nb)).Nodup
  sz : T.n = C.length
  lim : ∀ x, x ∈ T.F → x.2.path.length ≤ 600
section
variable {w0 w w' : World} {T : TS} {C : Cont} {x : Hd × AN}
theorem ATb.below (h : ATb w0 w T C x) (hb : Below w.heap.size w w') : ATb w0 w' T C x := ⟨h.am.below hb, h.ok, h.ct, h.but, h.hx, h.hk, h.nb, h.sz, h.lim⟩
theorem AOK.kid_ne (h : AOK T.F T.r) (hx : x ∈ T.F) {y : UInt8 × Hd} (hy : y ∈ x.2.kids) : y.2 ≠ x.1 := fun e => by
  obtain ⟨m, hm, hmp⟩ := h.dn x hx y hy
  have h1 := h.un hm hx e
  have h2 := congrArg (fun z : Hd × AN => z.2.path.length) h1
  simp only at h2
  rw [hmp] at h2
  simp at h2
theorem ATb.join (h : ATb w0 w T C x) : Calls Tryz.prog 56 #[.pointer (some ⟨T.t, 0, none⟩), hV x.1] w fun e w' => e = .returned (.tuple #[]) ∧ ∃ T', AT w0 w' T' C ∧ TEv w w' T T' := by
  have hpre : ∀ z, z ∈ T.F → z.2.pre.size ≤ 600 := fun z hz => Nat.le_trans (h.ok.pre_le hz) (h.lim z hz)
  refine (h.am.join h.hx (fun y hy => ?_) (hpre _ h.hx) (h.ok.srt _ h.hx) (fun y hy => h.ok.kid_ne h.hx hy)).mono ?_
  · obtain ⟨m, hm, _⟩ := h.ok.dn _ h.hx y hy
    exact ⟨m, hm, hpre _ hm⟩
  · rintro e w' ⟨rfl, ⟨hno, hb⟩ | ⟨hyes, b, g, m, hkg, hm, T', a1, a2, a3, a4, a5⟩⟩
    · have hD := del_stay h.ok h.ct h.but h.hx hno h.hk
      exact ⟨rfl, T, ⟨h.am.below hb, hD.ok, hD.ct, hD.nm, h.nb, h.sz, h.lim⟩, TEv.below h.am hb⟩
    · have hr : x.1 ≠ T.r := fun e => hyes (.inl e)
      have hv : x.2.val = none := by
        cases hv : x.2.val with
        | none => rfl
        | some v => exact absurd (.inr (.inl (by rw [hv]; rfl))) hyes
      have hD := del_join h.ok h.ct h.but h.hx hr hv hkg hm
      refine ⟨rfl, T', ⟨a1, ?_, ?_, ?_, ?_, a4.trans h.sz, ?_⟩, a2⟩
      · rw [a3, a2.r]; exact hD.ok
      · rw [a3]; exact hD.ct
      · rw [a3, a2.r]; exact hD.nm
      · rw [a3]; exact hD.nb h.nb
      · rw [a3]; exact hD.lim h.lim
/-- A leaf without a value is gone. -/
theorem ATb.leafGone (h : AOK T.F T.r) (hc : ACt T.F C) (hb : ANbut T.F T.r x.1) (hx : x ∈ T.F) (hk : x.2.kids = []) (hv : x.2.val = none) (hnb : (T.F.map (·.2.nb)).Nodup) (hl : ∀ x, x ∈ T.F → x.2.path.length ≤ 600) {p : Hd × AN} (hp : p ∈ T.F) {b : UInt8} (hbx : (b, x.1) ∈ p.2.kids)
    {T' : TS} (ha : AM w0 w' T') (hr : T'.r = T.r) (hF : T'.F = adel (aset T.F p.1 { p.2 with kids := kdel p.2.kids b }) x.1) (hn : T'.n = C.length) : ATb w0 w' T' C (p.1, { p.2 with kids := kdel p.2.kids b }) := by
  obtain ⟨d1, d2, d3, d4, d5⟩ := del_leaf h hc hb hx hk hv hp hbx
  refine ⟨ha, ?_, ?_, ?_, ?_, ?_, ?_, hn, ?_⟩
  · rw [hF, hr]; exact d1
  · rw [hF]; exact d2
  · rw [hF, hr]; exact d3
  · rw [hF]; exact d4
  · rw [hr]; exact d5
  · rw [hF]
    refine nb_adel ?_
    exact nb_set hnb h.nd hp rfl
  · rw [hF]
    exact lim_adel (lim_set hl hp (hl _ hp))
end
end Go.Proofs.YtmhlokomlngdmaaGreat
namespace Go.Proofs.YtmhlokomlngdmaaGreat
open Go.RowKit
def stcel (x : Hd × UInt8) : List Value := [.int .i64 x.1.1, .int .u64 x.1.2, .int .u8 x.2.toNat]
theorem stcel_len (x : Hd × UInt8) : (stcel x).length = 3 := rfl
theorem stcel_one (x : Hd × UInt8) : ∀ y ∈ stcel x, y.oneCell' = true := by intro y hy; simp [stcel] at hy; rcases hy with rfl | rfl | rfl <;> rfl
theorem step_info : ∃ i0 : TypeInfo, Tryz.prog.info? 109 = some i0 ∧ i0.zero = some (.agg #[.int .i64 0, .int .u64 0, .int .u8 0]) ∧ i0.size = 3 ∧ i0.bytes = 24 := by
  have h : (Tryz.prog.info? 109).map (fun i => (i.zero, i.size, i.bytes)) = some (some (.agg #[.int .i64 0, .int .u64 0, .int .u8 0]), 3, 24) := by kernel_rfl
  cases hi : Tryz.prog.info? 109 with
  | none => rw [hi] at h; cases h
  | some i => rw [hi] at h; injection h with h; exact ⟨i, rfl, congrArg (·.1) h, congrArg (·.2.1) h, congrArg (·.2.2) h⟩
theorem row_one (w : World) (x : Hd × UInt8) {base : Nat} (hb : base ≤ w.heap.size) : Row base 109 3 stcel (w.alloc (.cells (stcel x).toArray 109)) (.slice (some ⟨w.heap.size, 0, none⟩) 1 1) [x] := by
  exact ⟨stcel_len, stcel_one, rfl, .inr ⟨w.heap.size, 1, _, rfl, hb, heap_alloc_new _ _, Nat.le_refl _, by decide, rfl, rfl⟩⟩
/-- The steps to a node: the last is its own, the last but one its parent's. -/
def Way (T : TS) (W : List (Hd × UInt8)) (h : Hd) : Prop :=
  ∃ W' b, W = W' ++ [(h, b)] ∧ ((W' = [] ∧ h = T.r) ∨ ∃ W2 p bp, W' = W2 ++ [(p.1, bp)] ∧ p ∈ T.F ∧ (b, h) ∈ p.2.kids)
theorem Way.snoc {T : TS} {W : List (Hd × UInt8)} {b : UInt8} {g : Hd} {x : Hd × AN} (h : Way T W x.1) (hx : x ∈ T.F) (hb : (b, g) ∈ x.2.kids) : Way T (W ++ [(g, b)]) g := by
  obtain ⟨W', b0, rfl, _⟩ := h
  exact ⟨_, b, rfl, .inr ⟨W', x, b0, rfl, hx, hb⟩⟩
theorem Way.last {T : TS} {W : List (Hd × UInt8)} {h : Hd} (k : Way T W h) : 1 ≤ W.length ∧ ∃ b, W[W.length - 1]? = some (h, b) := by
  obtain ⟨W', b, rfl, _⟩ := k
  refine ⟨by simp, b, ?_⟩
  rw [List.length_append, List.getElem?_append_right (by simp)]
  simp
/-- The last step's cells. -/
theorem Way.cells {T : TS} {W : List (Hd × UInt8)} {h : Hd} {w : World} {v : Value} {base : Nat} (k : Way T W h) (hr : Row base 109 3 stcel w v W) :
    ∃ bk cap b, v = .slice (some ⟨bk, 0, none⟩) W.length cap ∧ base ≤ bk ∧ bk < w.heap.size ∧ W.length ≤ cap ∧ cap ≤ maxLen ∧ W[W.length - 1]? = some (h, b) ∧ w.cell? ⟨bk, (W.length - 1) * 3, none⟩ = some (.int .i64 h.1) ∧ w.cell? ⟨bk, (W.length - 1) * 3 + 1, none⟩ = some (.int .u64 h.2) ∧ w.cell? ⟨bk, (W.length - 1) * 3 + 2, none⟩ = some (.int .u8 b.toNat) := by
  obtain ⟨_, b, hb⟩ := k.last
  obtain ⟨bk, cap, h1, _, h2, h3, h4, h5, _, h6⟩ := hr.at hb
  exact ⟨bk, cap, b, h1, h2, h3, h4, h5, hb, h6 0 _ rfl, h6 1 _ rfl, h6 2 _ rfl⟩
theorem AOK.le_path {F : AF} {r : Hd} (h : AOK F r) {x : Hd × AN} (hx : x ∈ F) {s : Byt} (hp : x.2.path = s ++ bl x.2.pre) : ∀ z, z ∈ F → s <+: z.2.path → x.2.path <+: z.2.path := fun z hz hs => by
  by_cases hr : x.1 = r
  · rw [(h.root_pre hx hr).2]; exact List.nil_prefix
  · obtain ⟨p, hpF, b, hb, hpe⟩ := h.base hx hr
    have h1 : s = p.2.path ++ [b] := by
      have := hp.symm.trans hpe
      rw [show p.2.path ++ b :: bl x.2.pre = (p.2.path ++ [b]) ++ bl x.2.pre by simp] at this
      exact List.append_cancel_right this
    exact h.via hpF hz hb (m := x.2) hx (by show p.2.path ++ [b] <+: z.2.path; rw [← h1]; exact hs)
structure DInv (w0 w : World) (T : TS) (key : Str) (k1 : Str) (v : Value) (W : List (Hd × UInt8)) (x : Hd × AN) (s : Byt) (wr : World) : Prop where
  hx : x ∈ T.F
  hk : bl key = s ++ bl k1
  hp : x.2.path = s ++ bl x.2.pre
  bel : Below w.heap.size w wr
  row : Row w.heap.size 109 3 stcel wr v W
  way : Way T W x.1
  len : W.length + k1.size ≤ 601
def DelEnd (w0 w : World) (T : TS) (C : Cont) (key : Str) (e : Ending) (w' : World) : Prop :=
  (cget C key = none ∧ e = .returned (.tuple #[.string ⟨#[]⟩, .bool false]) ∧ Below w.heap.size w w') ∨
  (∃ v, cget C key = some v ∧ e = .returned (.tuple #[.string v, .bool true]) ∧ ∃ T', AT w0 w' T' (cdel C key) ∧ TEv w w' T T')
theorem res_delete {W : World} (tmps : Array Value) (a b : Value) (h4 : tmps[4]? = some a) (h5 : tmps[5]? = some b) : (results Tryz.f24 tmps).run Tryz.prog W = .ok (.tuple #[a, b]) W := by
  simp [results, Tryz.results24, go_sem, h4, h5]
theorem wr_two (M : Nat) (h : M ≤ 601) : wrap64 ((M : Int) + 1 + 1 - 2) = (M : Int) ∧ IntKind.i64.wrap ((M : Int) + 1 + 1 - 2) = (M : Int) ∧ wrap64 (M : Int) = (M : Int) ∧ (M : Int) < (M : Int) + 1 + 1 ∧ (0 : Int) ≤ (M : Int) := by
  refine ⟨?_, ?_, IntWalk.wrap64_in _ (by omega), by omega, by omega⟩
  · rw [show ((M : Int) + 1 + 1 - 2) = (M : Int) by omega]
    exact IntWalk.wrap64_in _ (by omega)
  · rw [show ((M : Int) + 1 + 1 - 2) = (M : Int) by omega]
    exact IntWalk.i64_in _ (by omega)
theorem st_stored {w : World} {q : Nat} {a b c : Value} {t : TypeId} (h : w.heap[q]? = some (.cells #[a, b, c] t)) (x y z : Value) :
    (((w.setCell ⟨q, 0, none⟩ x).setCell ⟨q, 1, none⟩ y).setCell ⟨q, 2, none⟩ z).heap[q]? = some (.cells #[x, y, z] t) ∧ Upd [q] w (((w.setCell ⟨q, 0, none⟩ x).setCell ⟨q, 1, none⟩ y).setCell ⟨q, 2, none⟩ z) := by
  have h0 : (w.setCell ⟨q, 0, none⟩ x).heap[q]? = some (.cells #[x, b, c] t) := heap_set_same h 0 _
  have h1 : ((w.setCell ⟨q, 0, none⟩ x).setCell ⟨q, 1, none⟩ y).heap[q]? = some (.cells #[x, y, c] t) := heap_set_same h0 1 _
  refine ⟨heap_set_same h1 2 _, ?_⟩
  exact ((((Upd.refl [q] w).setCell (p := ⟨q, 0, none⟩) (by simp) x).setCell (p := ⟨q, 1, none⟩) (by simp) y)).setCell (p := ⟨q, 2, none⟩) (by simp) z
set_option maxRecDepth 100000 in
set_option maxHeartbeats 16000000 in
theorem AT.delete {w0 w : World} {T : TS} {C : Cont} (h : AT w0 w T C) (key : Str) (hkz : key.size ≤ 600) :
    Calls Tryz.prog 24 #[.pointer (some ⟨T.t, 0, none⟩), .string key] w (DelEnd w0 w T C key) := by
  obtain ⟨c0, c1, c2, c3, c4, c5, hq⟩ := h.am.cells
  have hO := Lib.hid (out_ok c1 c5)
  obtain ⟨rn, hrn, hrp, hrs⟩ := h.ok.root
  have hstart : DInv w0 w T key key (.slice (some ⟨w.heap.size, 0, none⟩) 1 1) [(T.r, 0)] (T.r, rn) [] (w.alloc (.cells #[.int .i64 T.r.1, .int .u64 T.r.2, .int .u8 0] 109)) :=
    ⟨hrn, rfl, by rw [hrp, hrs]; rfl, (Below.refl _ _).alloc (Nat.le_refl _) _, row_one w (T.r, 0) (Nat.le_refl _), ⟨[], 0, rfl, .inl ⟨rfl, rfl⟩⟩, by show 1 + key.size ≤ 601; omega⟩
  replace h := Lib.hid h
  replace hstart := Lib.hid hstart
  clear hrn hrp hrs
  go_enter Tryz.func24, Tryz.ntmps24
  go_wp2_with fail
  refine hO.out.mono ?_
  clear hO
  rintro e w1 ⟨rfl, rfl⟩
  go_upto_block 0 with fail
  go_cut [6] (fun v6 wz => ∃ W x, x ∈ T.F ∧ x.2.path = bl key ∧ Below w.heap.size w wz ∧ Row w.heap.size 109 3 stcel wz v6 W ∧ Way T W x.1 ∧ W.length ≤ 601)
  case first =>
    go_wp2_with fail
    go_loopg [1, 6] (key.size + 1) (fun gk v1 v6 wr => ∃ (k1 : Str) (W : List (Hd × UInt8)) (x : Hd × AN) (s : Byt), gk = k1.size + 1 ∧ v1 = .string k1 ∧ DInv w0 w T key k1 v6 W x s wr)
    case atStart => exact ⟨key, _, _, _, rfl, rfl, hstart.out⟩
    case round =>
      clear hstart c2 c3 c4 c5
      obtain ⟨k1, W, x, s, rfl, rfl, hI⟩ := hrel
      obtain ⟨bk, cap, bb, rfl, hbk, hbkl, hcap, hcap2, hWl, hc1, hc2, hc3⟩ := hI.way.cells hI.row
      obtain ⟨N, hN⟩ : ∃ N, W.length = N + 1 := ⟨W.length - 1, by have := hI.way.last.1; omega⟩
      have hN6 : N ≤ 601 := by
        have h1 : W.length ≤ 601 := Nat.le_trans (Nat.le_add_right _ _) hI.len
        rw [hN] at h1
        exact Nat.le_trans (Nat.le_succ N) h1
      have hi1 : ∀ N : Nat, N ≤ 601 → IntKind.i64.wrap (((N + 1 : Nat) : Int) - 1) = (N : Int) := fun N h => by
        rw [show (((N + 1 : Nat) : Int) - 1) = (N : Int) by omega]
        exact IntWalk.i64_in _ (by omega)
      have hi2 : ∀ N : Nat, N ≤ 601 → wrap64 (N : Int) = (N : Int) := fun N h => IntWalk.wrap64_in _ (by omega)
      have hA := h.out.below hI.bel
      obtain ⟨e, e1, e2, e3, e4, hAt⟩ := hA.am.at hI.hx
      replace hAt := hAt wr (Below.refl _ _)
      have hnx := Lib.hid fun W (hW : Below wr.heap.size wr W) => nx_cells (Below.heap' hW e4)
      have hpl : x.2.pre.size ≤ 600 := Nat.le_trans (hA.ok.pre_le hI.hx) (hA.lim _ hI.hx)
      have hrow := hI.row
      rw [hN] at hrow hc1 hc2 hc3 hcap ⊢
      simp only [Nat.add_sub_cancel] at hc1 hc2 hc3
      have hw1 := hi1 N hN6
      have hw3 := hi2 N hN6
      clear hi1 hi2
      obtain ⟨⟨g1, g2⟩, n⟩ := x
      obtain ⟨eb, heb⟩ : ∃ eb, eb = e.blk := ⟨_, rfl⟩
      rw [← heb] at hAt hnx
      have d1 := keep hI.bel c1
      have dq := Nat.lt_of_lt_of_le hq hI.bel.size
      simp only at hc1 hc2 hnx hpl
      replace heb := Lib.hid heb
      replace hA := Lib.hid hA
      replace hI := Lib.hid hI
      replace hrow := Lib.hid hrow
      replace hN := Lib.hid hN
      replace hWl := Lib.hid hWl
      clear e4 c0 c1 hq
      go_wp2_with fail
      refine hAt.mono ?_
      clear hAt
      rintro y w2 ⟨rfl, hb2⟩
      obtain ⟨n1, n2, n3, n4, nq, nf⟩ := hnx.out w2 hb2
      have hCP := cutPrefix_any k1 n.pre w2
      have hB2 := hI.out.bel.trans (hb2.mono hI.out.bel.size)
      have hrow2 := hrow.out.below hb2
      replace hb2 := Lib.hid hb2
      replace hB2 := Lib.hid hB2
      replace hrow2 := Lib.hid hrow2
      go_wp2_with fail
      refine hCP.mono ?_
      clear hCP
      rintro e w4 ⟨⟨tt, htt, rfl⟩ | ⟨hno, rfl⟩, rfl⟩
      · have hx := hI.out.hx
        have hkk : bl key = n.path ++ bl tt := by rw [hI.out.hk, htt, hI.out.hp]; simp
        by_cases hte : bl tt = []
        · have hq0 : (ByteArray.toList tt).isEmpty = true := by rw [str_eq0]; exact decide_eq_true hte
          have hpk : n.path = bl key := by rw [hkk, hte]; simp
          have hW6 : W.length ≤ 601 := Nat.le_trans (Nat.le_add_right _ _) hI.out.len
          replace hpk := Lib.hid hpk
          replace hW6 := Lib.hid hW6
          replace hx := Lib.hid hx
          replace hkk := Lib.hid hkk
          replace hte := Lib.hid hte
          replace htt := Lib.hid htt
          go_wp2_with fail
          go_meet
          exact ⟨W, ((g1, g2), n), hx.out, hpk.out, hB2.out, hrow2.out, hI.out.way, hW6.out⟩
        · obtain ⟨b, tl, hbt⟩ : ∃ b tl, bl tt = b :: tl := by
            cases hh : bl tt with
            | nil => exact absurd hh hte
            | cons b tl => exact ⟨b, tl, rfl⟩
          have hq0 : (ByteArray.toList tt).isEmpty = false := by rw [str_eq0]; exact decide_eq_false hte
          have ga : ∀ W, (Instr.index 9 (.string tt) (.int .i64 0)).run Tryz.prog W = .ok (.int .u8 b.toNat) W := fun W => index_at (q := []) hbt rfl W
          have hsl1 : ∀ W, (Instr.slice 9 (.string tt) (some (.int .i64 1)) none none).run Tryz.prog W = .ok (.string (bs tl)) W := fun W => slice_from (q := [b]) hbt rfl W
          obtain ⟨t1, ht1⟩ : ∃ t1, t1 = bs tl := ⟨_, rfl⟩
          rw [← ht1] at hsl1
          obtain ⟨gh, hgh⟩ : ∃ gh, gh = (kget n.kids b).getD (0, 0) := ⟨_, rfl⟩
          obtain ⟨gf, hgf⟩ : ∃ gf, gf = (kget n.kids b).isSome := ⟨_, rfl⟩
          obtain ⟨Bk, hBk⟩ := (h.out.below hB2.out).am.kidsAt (h.out.am.kid _ hx)
          have hG := fun W (hW : Below w2.heap.size w2 W) => anGet_any (hBk.below hW) b
          simp only at hG
          rw [← hgh, ← hgf] at hG
          replace hG := Lib.hid hG
          replace hgh := Lib.hid hgh
          replace hgf := Lib.hid hgf
          replace ht1 := Lib.hid ht1
          replace hbt := Lib.hid hbt
          replace hkk := Lib.hid hkk
          replace hx := Lib.hid hx
          replace hte := Lib.hid hte
          replace htt := Lib.hid htt
          clear hBk hc1 hc2 hc3
          go_upto_region 9 with fail
          go_cut [9, 10] (fun v9 v10 wz => ∃ GB, v10 = .pointer (some ⟨GB, 0, none⟩) ∧ v9 = .bool gf ∧ wz.heap[GB]? = some (.cells #[.int .i64 gh.1, .int .u64 gh.2] 77) ∧ w2.heap.size ≤ GB ∧ Below w2.heap.size w2 wz)
          case first =>
            have hne := World.new_ne w2 _ n4
            go_region_held3 (fun W => W.cell? ⟨eb, 4, none⟩ = some (.pointer (some ⟨n.nb, 0, none⟩))) (first | exact n4 | exact i3 | go_keep) (first
              | (go_at_call 46; refine (hG.out _ (bel_dwa _)).mono ?_; rintro e w5 ⟨rfl, hb5⟩; have hbw := (bel_dwa _).trans (hb5.mono (bel_dwa _).size); have i3 := keep hbw n4; have hy5 := Below.heap' hb5 (new_dw w2 _); obtain ⟨y50, y51, y5q, y5f⟩ := cells2 hy5; replace hy5 := Lib.hid hy5; replace hbw := Lib.hid hbw; replace hb5 := Lib.hid hb5)
              | (go_at_call 46; refine (hG.out _ bel_dw).mono ?_; rintro e w5 ⟨rfl, hb5⟩; have hbw := bel_dr (k := 1) hb5; have i3 := keep hbw n4; have hne5 := World.new_ne w5 _ i3; replace hbw := Lib.hid hbw; replace hb5 := Lib.hid hb5))
            all_goals
              go_wp2_with fail
              go_meet
              first
              | (have hy := hy5.out
                 exact ⟨w2.heap.size, rfl, rfl, (hd_stored hy _ _).1, Nat.le_refl _, hbw.out.trans ((hd_stored hy _ _).2.below hbw.out.size (fun k hk => by rw [List.mem_singleton.1 hk]; exact Nat.le_refl _))⟩)
              | exact ⟨w5.heap.size, rfl, rfl, heap_alloc_new _ _, hbw.out.size, hbw.out.alloc hbw.out.size _⟩
          case rest =>
            obtain ⟨GB, rfl, rfl, hGB, hGq, hbw⟩ := hcut
            obtain ⟨wd, hwd⟩ : ∃ wd, wd = wc := ⟨_, rfl⟩
            rw [← hwd] at hGB hbw ⊢
            clear hwd
            have hB4 := hB2.out.trans (hbw.mono hB2.out.size)
            have hrow4 := hrow2.out.below hbw
            clear n1 n2 n3 n4 nq nf
            obtain ⟨m0, m1, mq, mf⟩ := cells2 hGB
            replace hbw := Lib.hid hbw
            replace hB4 := Lib.hid hB4
            replace hrow4 := Lib.hid hrow4
            replace hGB := Lib.hid hGB
            cases gf with
            | false =>
              have hkn : kget n.kids b = none := by
                have := hgf.out
                cases hk : kget n.kids b with
                | none => rfl
                | some z => rw [hk] at this; cases this
              have hno : Hid (cget C key = none) := Lib.hid (h.out.ct.get_none fun x hx2 he => by
                rcases h.out.ok.under hx.out hx2 (by rw [he, hkk.out, hbt.out]; exact ⟨_, rfl⟩) with rfl | ⟨y, y1, m, y2, y3, y4⟩
                · rw [hkk.out, hbt.out] at he
                  have := congrArg List.length he
                  simp at this
                · rw [he, hkk.out, hbt.out, y3] at y4
                  have h5 := (List.prefix_append_right_inj _).1 y4
                  obtain ⟨h6, _⟩ := List.cons_prefix_cons.1 h5
                  exact kget_none_iff.1 hkn y y1 h6)
              clear hkn
              go_wp2_with (refine bodyPost_ret (res_delete _ (.string ⟨#[]⟩) (.bool false) ?_ ?_) rfl (Hid.out ?_); iterate 2 simp only [List.getElem?_toArray, List.getElem?_cons_succ, List.getElem?_cons_zero])
              all_goals exact Lib.hid (.inl ⟨hno.out, rfl, hB4.out⟩)
            | true =>
              have hkn : kget n.kids b = some gh := by
                have h1 := hgf.out
                have h2 := hgh.out
                cases hk : kget n.kids b with
                | none => rw [hk] at h1; cases h1
                | some z => rw [hk] at h2; rw [h2]; rfl
              have hmem : (b, gh) ∈ n.kids := (kget_iff (h.out.ok.srt _ hx.out)).1 hkn
              obtain ⟨m, hm1, hm2⟩ := h.out.ok.dn _ hx.out _ hmem
              have hway := hI.out.way.snoc hx.out hmem
              have hsz := bl_size tt
              rw [hbt.out, List.length_cons] at hsz
              have ht1z : t1.size + 1 = tt.size := by rw [ht1.out, ← hsz]; rfl
              have hkz1 : tt.size + n.pre.size = k1.size := by
                have h1 := congrArg List.length htt.out
                rw [List.length_append, bl_size, bl_size, bl_size] at h1
                omega
              have hlen2 : (W ++ [(gh, b)]).length + t1.size ≤ 601 := by
                have := hI.out.len
                rw [List.length_append]
                simp only [List.length_singleton]
                omega
              have hms : t1.size + 1 < k1.size + 1 := by omega
              obtain ⟨i0, hi0, hzA, hzB, hzC⟩ := step_info
              have hAl : Below wd.heap.size wd (wd.alloc (.cells (stcel (gh, b)).toArray 109)) := (Below.refl _ _).alloc (Nat.le_refl _) _
              have hrow5 := (hrow4.out.below hAl).below (drew_bel _)
              rw [← hN.out] at hrow5
              have hsrc := (SrcOf.one wd 109 (stcel (gh, b)) (stcel_one _)).below (drew_bel _)
              have hlm : W.length + [(gh, b)].length ≤ maxLen := by have := hI.out.len; unfold maxLen; simp only [List.length_singleton]; omega
              have hly : (W.length + [(gh, b)].length) * 24 ≤ 140737488355328 := by have := hI.out.len; simp only [List.length_singleton]; omega
              have hbb : w.heap.size ≤ ((wd.alloc (.cells (stcel (gh, b)).toArray 109)).drew).heap.size := Nat.le_trans hB4.out.size hAl.size
              have hb5 := hB4.out.trans ((hAl.trans ((drew_bel _).mono hAl.size)).mono hB4.out.size)
              have hinv : Hid (∀ v' w', Row w.heap.size 109 3 stcel w' v' (W ++ [(gh, b)]) → Upd (Value.slice (some ⟨bk, 0, none⟩) (N + 1) cap).ownBlock.toList ((wd.alloc (.cells (stcel (gh, b)).toArray 109)).drew) w' → DInv w0 w T key t1 v' (W ++ [(gh, b)]) (gh, m) (n.path ++ [b]) w') := Lib.hid fun v' w' hr hu =>
                ⟨hm1, by rw [hkk.out, hbt.out, ht1.out, bl_bs]; simp, by rw [hm2]; simp, hb5.trans (hu.below hb5.size (fun k hk => (hrow4.out.lt k (mem_own hk)).1)), hr, hway, hlen2⟩
              have hrow6 := (hrow4.out.below hAl).below (drew_bel _)
              replace hrow6 := Lib.hid hrow6
              replace hsrc := Lib.hid hsrc
              replace hkn := Lib.hid hkn
              replace hlm := Lib.hid hlm
              replace hly := Lib.hid hly
              replace hbb := Lib.hid hbb
              clear hrow5 hm1 hm2 hway hmem hsz hlen2 hkz1 ht1z hAl hb5
              go_upto_region 12 with fail
              go_region_law (first | (refine step_append_row (f := stcel) (M := [(gh, b)]) _ rfl _ _ 110 rfl w.heap.size 109 i0 (.agg #[.int .i64 0, .int .u64 0, .int .u8 0]) 3 24 Tryz.underlying110 hi0 hzA hzB hzC rfl (Nat.zero_lt_succ 2) (.slice (some ⟨bk, 0, none⟩) (N + 1) cap) W rfl hrow6.out (.slice (some ⟨wd.heap.size, 0, none⟩) 1 1) rfl hsrc.out hlm.out hly.out hbb.out ?_; intro a' c' w6 hrowN hu6 hat6; have hinv6 := hinv.out _ _ hrowN hu6; replace hinv6 := Lib.hid hinv6; replace hrowN := Lib.hid hrowN; replace hu6 := Lib.hid hu6; replace hat6 := Lib.hid hat6))
              all_goals
                go_wp2_with fail
                go_roundg (t1.size + 1)
                case rel => exact ⟨t1, W ++ [(gh, b)], (gh, m), n.path ++ [b], rfl, rfl, hinv6.out⟩
                case measure => exact hms
      · have hfin : Hid (cget C key = none) := Lib.hid (h.out.ct.get_none (k := key) (fun z hz he => hno (by
          have h5 := h.out.ok.le_path hI.out.hx hI.out.hp z hz (by rw [he, hI.out.hk]; exact ⟨_, rfl⟩)
          rw [he, hI.out.hp, hI.out.hk] at h5
          exact (List.prefix_append_right_inj s).1 h5)))
        clear hno
        go_wp2_with (refine bodyPost_ret (res_delete _ (.string ⟨#[]⟩) (.bool false) ?_ ?_) rfl (Hid.out ?_); iterate 2 simp only [List.getElem?_toArray, List.getElem?_cons_succ, List.getElem?_cons_zero])
        all_goals exact Lib.hid (.inl ⟨hfin.out, rfl, hB2.out⟩)
  case rest =>
    obtain ⟨W, x, hx, hpk, hBw, hrow, hway, hW6⟩ := hcut
    obtain ⟨wd, hwd⟩ : ∃ wd, wd = wc := ⟨_, rfl⟩
    rw [← hwd] at hBw hrow ⊢
    clear hwd hstart
    obtain ⟨bk, cap, bb, rfl, hbk, hbkl, hcap, hcap2, hWl, hc1, hc2, hc3⟩ := hway.cells hrow
    have hpos := hway.last.1
    obtain ⟨N, hN⟩ : ∃ N, W.length = N + 1 := ⟨W.length - 1, (Nat.sub_add_cancel hpos).symm⟩
    have hN6 : N ≤ 601 := by
      rw [hN] at hW6
      exact Nat.le_trans (Nat.le_succ N) hW6
    have hi1 : ∀ N : Nat, N ≤ 601 → IntKind.i64.wrap (((N + 1 : Nat) : Int) - 1) = (N : Int) := fun N h => by
      rw [show (((N + 1 : Nat) : Int) - 1) = (N : Int) by omega]
      exact IntWalk.i64_in _ (by omega)
    have hi2 : ∀ N : Nat, N ≤ 601 → wrap64 (N : Int) = (N : Int) := fun N h => IntWalk.wrap64_in _ (by omega)
    rw [hN] at hc1 hc2 hc3 hcap ⊢
    simp only [Nat.add_sub_cancel] at hc1 hc2 hc3
    have hw1 := hi1 N hN6
    have hw3 := hi2 N hN6
    clear hi1 hi2
    have hA := h.out.below hBw
    obtain ⟨e, e1, e2, e3, e4, hAt⟩ := hA.am.at hx
    replace hA := Lib.hid hA
    replace hrow := Lib.hid hrow
    replace hway := Lib.hid hway
    replace hBw := Lib.hid hBw
    replace hN := Lib.hid hN
    replace hWl := Lib.hid hWl
    replace hx := Lib.hid hx
    replace hpk := Lib.hid hpk
    replace hAt := Lib.hid hAt
    replace hcap2 := Lib.hid hcap2
    clear hpos hW6 c0 c2 c3 c4 c5
    go_upto_region 15 with fail
    have hal : Below wd.heap.size wd (wd.alloc (.cells #[.int .i64 x.1.1, .int .u64 x.1.2, .int .u8 bb.toNat] 109)) := (Below.refl _ _).alloc (Nat.le_refl _) _
    have hlb := heap_alloc_new wd (.cells #[.int .i64 x.1.1, .int .u64 x.1.2, .int .u8 bb.toNat] 109)
    generalize wd.alloc (.cells #[.int .i64 x.1.1, .int .u64 x.1.2, .int .u8 bb.toNat] 109) = wx at *
    obtain ⟨LB, hLB⟩ : ∃ LB, LB = wd.heap.size := ⟨_, rfl⟩
    rw [← hLB] at hlb ⊢
    obtain ⟨z0, z1, z2, zq, zf⟩ := cells3 hlb
    have hAx := hAt.out wx hal
    have hnx := Lib.hid fun W (hW : Below wd.heap.size wd W) => nx_cells (Below.heap' hW e4)
    replace hal := Lib.hid hal
    replace hlb := Lib.hid hlb
    replace hLB := Lib.hid hLB
    have hnxe := Lib.hid fun W (hW : Below wd.heap.size wd W) => Below.heap' hW e4
    obtain ⟨eb, heb⟩ : ∃ eb, eb = e.blk := ⟨_, rfl⟩
    rw [← heb] at hAx hnx
    replace heb := Lib.hid heb
    clear e4 hc1 hc2 hc3 hw1 hw3
    go_wp2_with fail
    refine hAx.mono ?_
    clear hAx
    rintro e5 w5 ⟨rfl, hb5⟩
    have hb25 := hal.out.trans (hb5.mono hal.out.size)
    obtain ⟨n1, n2, n3, n4, nq, nf⟩ := hnx.out w5 hb25
    replace hb5 := Lib.hid hb5
    replace hb25 := Lib.hid hb25
    obtain ⟨⟨g1, g2⟩, n⟩ := x
    simp only at n1 n2 n3 n4
    cases hv : n.val with
    | none =>
      rw [hv] at n2 n3
      have hno : Hid (cget C key = none) := Lib.hid (by
        have := h.out.ct.get_at h.out.ok hx.out (k := key) hpk.out.symm
        rw [this]; exact hv)
      replace hv := Lib.hid hv
      simp only [Option.isSome_none] at n3
      go_wp2_with (refine bodyPost_ret (res_delete _ (.string ⟨#[]⟩) (.bool false) ?_ ?_) rfl (Hid.out ?_); iterate 2 simp only [List.getElem?_toArray, List.getElem?_cons_succ, List.getElem?_cons_zero])
      all_goals exact Lib.hid (.inl ⟨hno.out, rfl, hBw.out.trans (hb25.out.mono hBw.out.size)⟩)
    | some ov =>
      rw [hv] at n2 n3
      simp only [Option.isSome_some, Option.getD_some] at n2 n3
      have hB5 := hBw.out.trans (hb25.out.mono hBw.out.size)
      have hA5 := h.out.below hB5
      have hget : cget C key = some ov := by
        have := h.out.ct.get_at h.out.ok hx.out (k := key) hpk.out.symm
        rw [this]; exact hv
      have hln := cdel_len h.out.ct.srt key
      rw [hget] at hln
      have hc0 : w5.heap[eb]? = some (.cells #[.int .u64 e.gen, .string n.pre, .string (n.val.getD s0), .bool n.val.isSome, .pointer (some ⟨n.nb, 0, none⟩)] 129) := by rw [heb.out]; exact hnxe.out w5 hb25.out
      have hs1 : (w5.setCell ⟨eb, 2, none⟩ (.string ⟨#[]⟩)).heap[eb]? = some (.cells #[.int .u64 e.gen, .string n.pre, .string ⟨#[]⟩, .bool n.val.isSome, .pointer (some ⟨n.nb, 0, none⟩)] 129) := heap_set_same hc0 2 _
      have hs2 : ((w5.setCell ⟨eb, 2, none⟩ (.string ⟨#[]⟩)).setCell ⟨eb, 3, none⟩ (.bool false)).heap[eb]? = some (.cells #[.int .u64 e.gen, .string n.pre, .string ⟨#[]⟩, .bool false, .pointer (some ⟨n.nb, 0, none⟩)] 129) := heap_set_same hs1 3 _
      have hu : Upd [e.blk] w5 ((w5.setCell ⟨eb, 2, none⟩ (.string ⟨#[]⟩)).setCell ⟨eb, 3, none⟩ (.bool false)) := by rw [← heb.out]; exact Upd.setCell (Upd.setCell (Upd.refl _ _) (by simp) _) (by simp) _
      obtain ⟨T1, q1, q2, q3, q4, q5, q6⟩ := hA5.am.store hx.out e1 e2 e3 { n with val := none } (h.out.am.kid _ hx.out) hu (by rw [← heb.out]; exact hs2)
      have hn1 : 1 ≤ T.n := by rw [h.out.sz]; exact hln.2 rfl
      have hblk := q1.blk
      have ht1 : T1.t = T.t := q2.t
      have hset := heap_set_same hblk 4 (.int .i64 ((T.n - 1 : Nat) : Int))
      obtain ⟨r1, r2⟩ := q1.size (T.n - 1) (Upd.setCell (Upd.refl _ _) (by simp) (.int .i64 ((T.n - 1 : Nat) : Int)) : Upd [T1.t] _ (((w5.setCell ⟨eb, 2, none⟩ (.string ⟨#[]⟩)).setCell ⟨eb, 3, none⟩ (.bool false)).setCell ⟨T1.t, 4, none⟩ (.int .i64 ((T.n - 1 : Nat) : Int)))) hset
      have hev := ((TEv.below h.out.am hB5).trans q2).trans r2
      have hteb : T.t ≠ eb := fun hh => by
        have h1 := hA5.am.rol
        have h2 := ((hA5.am.bw.ars.ar _ _ hA5.am.hd).th e e1).1
        rw [hh, heb.out, h2] at h1
        omega
      have hteb2 : ¬ eb = T.t := fun hh => hteb hh.symm
      have hteb1 : ¬ T.t = eb := hteb
      obtain ⟨_, _, _, _, y4, _, yq⟩ := hA5.am.cells
      have yf : ∀ i, w5.frozen? ⟨T.t, i, none⟩ = false := fun i => frozen_of_heap hA5.am.blk i
      have hnz : T.n ≤ 100000 := by
        have h1 := sub_count h.out.ok h.out.ct
        have h2 : (T.F.filter fun x => x.2.val.isSome).length ≤ T.F.length := List.length_filter_le _ _
        have h3 := h.out.am.freeLen
        have h4 := h.out.sz
        omega
      obtain ⟨tn, htn⟩ : ∃ tn, T.n = tn + 1 := ⟨T.n - 1, (Nat.sub_add_cancel hn1).symm⟩
      rw [htn] at y4 r1 r2 hev hset hnz
      simp only [Nat.add_sub_cancel] at r1 r2 hev hset
      have hi1 : ∀ N : Nat, N + 1 ≤ 100000 → IntKind.i64.wrap (((N + 1 : Nat) : Int) - 1) = (N : Int) := fun N h => by
        rw [show (((N + 1 : Nat) : Int) - 1) = (N : Int) by omega]
        exact IntWalk.i64_in _ (by omega)
      have hw1 := hi1 tn hnz
      clear hi1
      rw [ht1] at r1 r2 hev
      replace r1 := Lib.hid r1
      replace r2 := Lib.hid r2
      replace hev := Lib.hid hev
      replace hset := Lib.hid hset
      replace q1 := Lib.hid q1
      replace q2 := Lib.hid q2
      replace q3 := Lib.hid q3
      replace q4 := Lib.hid q4
      replace q5 := Lib.hid q5
      replace q6 := Lib.hid q6
      replace hu := Lib.hid hu
      replace hc0 := Lib.hid hc0
      replace hs1 := Lib.hid hs1
      replace hs2 := Lib.hid hs2
      replace hblk := Lib.hid hblk
      replace hA5 := Lib.hid hA5
      replace hB5 := Lib.hid hB5
      replace hget := Lib.hid hget
      replace hln := Lib.hid hln
      replace htn := Lib.hid htn
      replace ht1 := Lib.hid ht1
      clear hn1
      have hebw : eb < w.heap.size := by rw [heb.out]; exact heap_lt (h.out.am.bw.cellsOf h.out.am.hd h.out.am.tc e1)
      have htw : T.t < w.heap.size := heap_lt h.out.am.blk
      have hs3 : (((w5.setCell ⟨eb, 2, none⟩ (.string ⟨#[]⟩)).setCell ⟨eb, 3, none⟩ (.bool false)).setCell ⟨T.t, 4, none⟩ (.int .i64 (tn : Int))).heap[eb]? = some (.cells #[.int .u64 e.gen, .string n.pre, .string ⟨#[]⟩, .bool false, .pointer (some ⟨n.nb, 0, none⟩)] 129) :=
        (Upd.setCell (Upd.refl [T.t] _) (by simp) _).heap hs2.out (by simp [hteb2])
      have hup : Upd [eb, T.t] w5 (((w5.setCell ⟨eb, 2, none⟩ (.string ⟨#[]⟩)).setCell ⟨eb, 3, none⟩ (.bool false)).setCell ⟨T.t, 4, none⟩ (.int .i64 (tn : Int))) := Upd.setCell (Upd.setCell (Upd.setCell (Upd.refl _ _) (by simp) _) (by simp) _) (by simp) _
      replace hs3 := Lib.hid hs3
      replace hup := Lib.hid hup
      clear hs1 hs2 hblk hset
      go_upto_region 21 with fail
      generalize ((w5.setCell ⟨eb, 2, none⟩ (.string ⟨#[]⟩)).setCell ⟨eb, 3, none⟩ (.bool false)).setCell ⟨T.t, 4, none⟩ (.int .i64 (tn : Int)) = wy at *
      obtain ⟨T2, hT2⟩ : ∃ T2 : TS, T2 = { T1 with t := T.t, n := tn } := ⟨_, rfl⟩
      have A2 : AM w0 wy T2 := by rw [hT2]; exact r1.out
      have E2 : TEv w wy T T2 := by rw [hT2]; exact hev.out
      have E5 : TEv w5 wy T T2 := by rw [hT2]; exact q2.out.trans r2.out
      have F2 : T2.F = aset T.F (g1, g2) { n with val := none } := by rw [hT2]; exact q3.out
      have K2 : T2.K = T.K := by rw [hT2]; exact q4.out
      have N2 : T2.n = tn := by rw [hT2]
      have d1 : AOK T2.F T2.r := by rw [F2, E2.r]; exact (del_val h.out.ok h.out.ct h.out.nm hx.out hpk.out.symm).1
      have d2 : ACt T2.F (cdel C key) := by rw [F2]; exact (del_val h.out.ok h.out.ct h.out.nm hx.out hpk.out.symm).2.1
      have d3 : ANbut T2.F T2.r (g1, g2) := by rw [F2, E2.r]; exact (del_val h.out.ok h.out.ct h.out.nm hx.out hpk.out.symm).2.2
      have hx2 : ((g1, g2), { n with val := none }) ∈ T2.F := by rw [F2]; exact (mem_aset ⟨n, hx.out⟩).2 (.inl rfl)
      have hnb2 : (T2.F.map (·.2.nb)).Nodup := by rw [F2]; exact nb_set h.out.nb h.out.ok.nd hx.out rfl
      have hlim2 : ∀ z, z ∈ T2.F → z.2.path.length ≤ 600 := by rw [F2]; exact lim_set h.out.lim hx.out (h.out.lim _ hx.out)
      have hsz2 : T2.n = (cdel C key).length := by
        rw [N2, hln.out.1]
        have := htn.out
        have := h.out.sz
        simp
        omega
      have hLr : T.ρ LB = 0 := by rw [hLB.out]; exact (h.out.below hBw.out).am.bw.ro.far _ (Nat.le_refl _)
      have hLw : w.heap.size ≤ LB := by rw [hLB.out]; exact hBw.out.size
      obtain ⟨lb1, lb2⟩ := E5.keep (Below.heap' hb5.out hlb.out) hLr
      have hrowy := ((hrow.out.below hal.out).below hb5.out).upd hup.out (fun q hq hm => by
        have := (((hrow.out.below hal.out).below hb5.out).lt q hq).1
        simp at hm
        omega)
      obtain ⟨Bk, hBk⟩ := A2.kidsAt (nb := n.nb) (L := n.kids) (by rw [K2]; exact h.out.am.kid _ hx.out)
      obtain ⟨nl, hnl⟩ : ∃ nl, nl = n.kids.length := ⟨_, rfl⟩
      have hLen : Hid (∀ W, Below wy.heap.size wy W → Calls Tryz.prog 52 #[.pointer (some ⟨n.nb, 0, none⟩)] W fun e w' => e = .returned (.int .i64 nl) ∧ w' = W) := Lib.hid fun W hW => by rw [hnl]; exact (anLen_any (hBk.below hW)).mono fun e w' ⟨a, b⟩ => ⟨a, b.symm⟩
      have k4 : wy.cell? ⟨eb, 4, none⟩ = some (.pointer (some ⟨n.nb, 0, none⟩)) := by rw [cell_of_heap hs3.out]; rfl
      have kq : eb < wy.heap.size := heap_lt hs3.out
      obtain ⟨lf, hlf⟩ : ∃ lf : Bool, lf = (decide (1 ≤ N) && decide (nl = 0)) := ⟨_, rfl⟩
      have htT : T2.t = T.t := E2.t
      have hNs : N ≤ 601 := hN6
      replace hT2 := Lib.hid hT2
      replace E5 := Lib.hid E5
      replace A2 := Lib.hid A2
      replace E2 := Lib.hid E2
      replace F2 := Lib.hid F2
      replace K2 := Lib.hid K2
      replace N2 := Lib.hid N2
      replace d1 := Lib.hid d1
      replace d2 := Lib.hid d2
      replace d3 := Lib.hid d3
      replace hx2 := Lib.hid hx2
      replace hnb2 := Lib.hid hnb2
      replace hlim2 := Lib.hid hlim2
      replace hsz2 := Lib.hid hsz2
      replace hrowy := Lib.hid hrowy
      replace lb1 := Lib.hid lb1
      replace hnl := Lib.hid hnl
      replace hlf := Lib.hid hlf
      replace htT := Lib.hid htT
      clear hT2 r1 r2 hev q1 q2 q3 q4 q5 q6 hu hc0 ht1 hA5 hBk y4 yq yf n1 n2 n3 n4 nq nf z0 z1 z2 zq zf hnx hnxe hw1 hq c1
      go_cut [107] (fun v107 wz => v107 = .bool lf ∧ Below wy.heap.size wy wz)
      case first =>
        have hl0 := hlf.out
        replace hlf := Lib.hid hlf
        by_cases hN0 : N = 0
        · subst hN0
          rw [show (decide (1 ≤ 0) && decide (nl = 0)) = false from rfl] at hl0
          subst hl0
          go_wp2_with fail
          go_meet
          exact ⟨rfl, Below.refl _ _⟩
        · obtain ⟨M, rfl⟩ : ∃ M, N = M + 1 := ⟨N - 1, (Nat.succ_pred_eq_of_ne_zero hN0).symm⟩
          have hgt : (1 : Int) < ((M + 1 + 1 : Nat) : Int) := by omega
          have hLl := hLen.out wy (Below.refl _ _)
          by_cases hl : nl = 0
          · subst hl
            rw [show (decide (1 ≤ M + 1) && decide (0 = 0)) = true by simp] at hl0
            subst hl0
            go_wp2_with fail
            refine hLl.mono ?_
            rintro e6 w6 ⟨rfl, rfl⟩
            go_wp2_with fail
            go_meet
            exact ⟨rfl, Below.refl _ _⟩
          · have hl3 : ((nl : Int) == 0) = false := by simp; omega
            rw [show (decide (1 ≤ M + 1) && decide (nl = 0)) = false by simp [hl]] at hl0
            subst hl0
            go_wp2_with fail
            refine hLl.mono ?_
            rintro e6 w6 ⟨rfl, rfl⟩
            go_wp2_with fail
            go_meet
            exact ⟨by simp, Below.refl _ _⟩
      case rest =>
        obtain ⟨rfl, hbz⟩ := hcut
        obtain ⟨we, hwe⟩ : ∃ we, we = wc := ⟨_, rfl⟩
        rw [← hwe] at hbz ⊢
        clear hwe
        go_upto_if 107 with fail
        go_cut [] (fun wz => ∃ T3 x3 b3, ATb w0 wz T3 (cdel C key) x3 ∧ TEv w wz T T3 ∧ wz.heap[LB]? = some (.cells #[.int .i64 x3.1.1, .int .u64 x3.1.2, .int .u8 b3] 109))
        case first =>
          cases lf with
          | false =>
            have hk0 : Hid (((g1, g2) : Hd) = T2.r ∨ (none : Option Str).isSome = true ∨ 1 ≤ n.kids.length) := Lib.hid (by
              obtain ⟨W', b, hWe, hcase⟩ := hway.out
              rcases hcase with ⟨_, hr⟩ | ⟨W2, p, bp, hW', _, _⟩
              · exact .inl (by rw [E2.out.r]; exact hr)
              · refine .inr (.inr ?_)
                have h1 := hlf.out
                have h2 := hN.out
                rw [hWe, hW'] at h2
                simp at h2
                have h3 : 1 ≤ N := by omega
                have h4 := hnl.out
                by_cases h0 : nl = 0
                · rw [h0] at h1; simp at h1; omega
                · omega)
            replace hbz := Lib.hid hbz
            go_wp2_with fail
            go_meet
            exact ⟨T2, ((g1, g2), { n with val := none }), _, ⟨A2.out.below hbz.out, d1.out, d2.out, d3.out, hx2.out, hk0.out, hnb2.out, hsz2.out, hlim2.out⟩, E2.out.trans (TEv.below A2.out hbz.out), Below.heap' hbz.out lb1.out⟩
          | true =>
            have hl1 : 1 ≤ N ∧ nl = 0 := by have := hlf.out; simpa using this.symm
            obtain ⟨hN1, hl1⟩ := hl1
            have hkz : n.kids = [] := List.length_eq_zero_iff.1 (hnl.out.symm.trans hl1)
            obtain ⟨M, rfl⟩ : ∃ M, N = M + 1 := ⟨N - 1, (Nat.sub_add_cancel hN1).symm⟩
            obtain ⟨W', b, hWe, hcase⟩ := hway.out
            have hpw : ∃ W2 p bp, W' = W2 ++ [(p.1, bp)] ∧ p ∈ T.F ∧ (b, ((g1, g2) : Hd)) ∈ p.2.kids := by
              rcases hcase with ⟨h0, _⟩ | h1
              · exfalso
                have h2 := hN.out
                rw [hWe, h0] at h2
                simp at h2
              · exact h1
            obtain ⟨W2, ⟨⟨p1, p2⟩, m⟩, bp, hW', hpF, hbp⟩ := hpw
            have hW2 : W2.length = M := by
              have h2 := hN.out
              rw [hWe, hW'] at h2
              simp at h2
              omega
            have hbb : bb = b := by
              have h2 := hWl.out
              rw [hWe, List.length_append, List.getElem?_append_right (by simp)] at h2
              simp at h2
              exact h2.symm
            subst hbb
            have hi : W[M]? = some (((p1, p2) : Hd), bp) := by
              rw [hWe, hW', List.append_assoc, List.getElem?_append_right (by omega), hW2]
              simp
            obtain ⟨bk', cap', hs', _, _, _, _, _, _, hcs⟩ := hrowy.out.at hi
            injection hs' with hs1 hs2 hs3'
            injection hs1 with hs1
            injection hs1 with hs1
            subst hs1
            have p0 := keep hbz (hcs 0 _ rfl)
            have p1' := keep hbz (hcs 1 _ rfl)
            have p2' := keep hbz (hcs 2 _ rfl)
            clear hcs hs2 hs3' hcase
            have hpx : ((p1, p2) : Hd) ≠ (g1, g2) := fun hh => (AOK.kid_ne h.out.ok hpF hbp) hh.symm
            have hp2 : ((p1, p2), m) ∈ T2.F := by rw [F2.out]; exact (mem_aset ⟨n, hx.out⟩).2 (.inr ⟨hpx, hpF⟩)
            have AE := A2.out.below hbz
            have EE := E2.out.trans (TEv.below A2.out hbz)
            have lbe := Below.heap' hbz lb1.out
            have hbu : Below we.heap.size we (we.alloc (.cells #[.int .i64 p1, .int .u64 p2, .int .u8 bp.toNat] 109)) := (Below.refl _ _).alloc (Nat.le_refl _) _
            have hub := heap_alloc_new we (.cells #[.int .i64 p1, .int .u64 p2, .int .u8 bp.toNat] 109)
            have hur : T2.ρ we.heap.size = 0 := AE.bw.ro.far _ (Nat.le_refl _)
            have huw : w.heap.size ≤ we.heap.size := EE.ru.size
            obtain ⟨hw2, hw4, hwm, hM2, hM3⟩ := wr_two M (Nat.le_of_succ_le hNs)
            simp only [Nat.add_zero] at p0
            simp only at p1' p2'
            replace hub := Lib.hid hub
            replace hbu := Lib.hid hbu
            replace hi := Lib.hid hi
            replace hWe := Lib.hid hWe
            replace hW' := Lib.hid hW'
            replace hW2 := Lib.hid hW2
            replace hkz := Lib.hid hkz
            replace hl1 := Lib.hid hl1
            replace hpF := Lib.hid hpF
            replace hbp := Lib.hid hbp
            replace hpx := Lib.hid hpx
            replace hp2 := Lib.hid hp2
            replace AE := Lib.hid AE
            replace EE := Lib.hid EE
            replace lbe := Lib.hid lbe
            replace hbz := Lib.hid hbz
            clear hi
            go_upto_region 23 with fail
            generalize we.alloc (.cells #[.int .i64 p1, .int .u64 p2, .int .u8 bp.toNat] 109) = wu at *
            obtain ⟨UB, hUB⟩ : ∃ UB, UB = we.heap.size := ⟨_, rfl⟩
            have hub := hub.out
            rw [← hUB] at hub hur huw ⊢
            have hLU : LB ≠ UB := by
              have := heap_lt lbe.out
              omega
            obtain ⟨u0, u1', u2, uq, uf⟩ := cells3 hub
            have AU := AE.out.below hbu.out
            have EU := EE.out.trans (TEv.below AE.out hbu.out)
            have lbu := Below.heap' hbu.out lbe.out
            obtain ⟨l0, l1, l2, lq, lz⟩ := cells3 lbu
            obtain ⟨ep, ep1, ep2, ep3, ep4, hAtp⟩ := AU.at hp2.out
            rw [htT.out] at hAtp
            have hrole : T2.ρ ep.blk ≠ 5 := by
              have := ((AU.bw.ars.ar _ _ AU.hd).th ep ep1).1
              omega
            obtain ⟨n1, n2, n3, n4, nq, nf⟩ := nx_cells ep4
            obtain ⟨epb, hepb⟩ : ∃ epb, epb = ep.blk := ⟨_, rfl⟩
            rw [← hepb] at hAtp hrole n4 nq
            have hun : ∀ z, z ∈ T2.F → z.2.nb = m.nb → z = ((p1, p2), m) := fun z hz he => nodup_inj hnb2.out hz hp2.out he
            have hDrop : Hid (∀ W, Below wu.heap.size wu W → Calls Tryz.prog 54 #[.pointer (some ⟨m.nb, 0, none⟩), .int .u8 bb.toNat] W fun y w' => y = .returned (.bool (kget m.kids bb).isSome) ∧
                (∃ T3, AM w0 w' T3 ∧ TEv W w' T2 T3 ∧ T3.F = aset T2.F (p1, p2) { m with kids := kdel m.kids bb } ∧ T3.n = T2.n) ∧ ∀ a u, W.cell? a = some u → T2.ρ a.block ≠ 5 → w'.cell? a = some u) := Lib.hid fun W hW => by
              obtain ⟨B, k1, k2, k3⟩ := (AU.below hW).kput hp2.out hun
              refine (anDrop_any k1 bb).mono ?_
              rintro y w' ⟨rfl, hE⟩
              obtain ⟨T3, r1, r2, r3, _, r5, r6⟩ := k3 w' _ hE
              exact ⟨rfl, ⟨T3, r1, r2, r3, r5⟩, fun a u ha h5 => hE.2.cell ha (fun hm => h5 (k2 _ hm))⟩
            replace hub := Lib.hid hub
            replace lbu := Lib.hid lbu
            replace AU := Lib.hid AU
            replace EU := Lib.hid EU
            replace hAtp := Lib.hid hAtp
            replace hUB := Lib.hid hUB
            replace hepb := Lib.hid hepb
            replace hun := Lib.hid hun
            clear ep4 ep3 ep2 ep1 n1 n2 n3 nf p0 p1' p2' k4 kq hw2 hw4 hwm hM2 hM3
            go_cut [] (fun wz => ∃ T3, AM w0 wz T3 ∧ TEv w wz T T3 ∧ T3.F = aset T2.F (p1, p2) { m with kids := kdel m.kids bb } ∧ T3.n = T2.n ∧ (wz.heap[LB]? = some (.cells #[.int .i64 g1, .int .u64 g2, .int .u8 bb.toNat] 109) ∧ T3.ρ LB = 0) ∧ (wz.heap[UB]? = some (.cells #[.int .i64 p1, .int .u64 p2, .int .u8 bp.toNat] 109) ∧ T3.ρ UB = 0))
            case first =>
              go_region_held3 (fun W' => W'.cell? ⟨UB, 0, none⟩ = some (.int .i64 p1) ∧ W'.cell? ⟨UB, 1, none⟩ = some (.int .u64 p2) ∧ W'.cell? ⟨LB, 2, none⟩ = some (.int .u8 bb.toNat) ∧ W'.cell? ⟨epb, 4, none⟩ = some (.pointer (some ⟨m.nb, 0, none⟩))) (first | exact ⟨u0, u1', l2, n4⟩ | exact ⟨j0, j1, j2, j3⟩ | exact ⟨i0, i1, i2, i3⟩ | go_keep) (first
                | (go_at_call 41; refine (hAtp.out _ bel_dw).mono ?_; rintro y w3 ⟨rfl, hb3⟩; have hw3 : Below wu.heap.size wu w3 := bel_dr (k := 1) hb3; have i0 := keep hw3 u0; have i1 := keep hw3 u1'; have i2 := keep hw3 l2; have i3 := keep hw3 n4; have iq := Nat.lt_of_lt_of_le nq hw3.size; replace hw3 := Lib.hid hw3; replace hb3 := Lib.hid hb3)
                | (go_at_call 54; refine (hDrop.out _ hw3.out).mono ?_; rintro y w4 ⟨rfl, ⟨T3, r1, r2, r3, r4⟩, hkp⟩; have j0 := hkp _ _ i0 (fun h => by rw [show T2.ρ UB = 0 from hur] at h; cases h); have j1 := hkp _ _ i1 (fun h => by rw [show T2.ρ UB = 0 from hur] at h; cases h); have j2 := hkp _ _ i2 (fun h => by rw [show T2.ρ LB = 0 from lb2] at h; cases h); have j3 := hkp _ _ i3 (fun h => hrole h); have hev4 := EU.out.trans ((TEv.below AU.out hw3.out).trans r2); have x1 := r2.keep (Below.heap' hw3.out lbu.out) lb2; have x2 := r2.keep (Below.heap' hw3.out hub.out) hur; replace hkp := Lib.hid hkp; replace r1 := Lib.hid r1; replace r2 := Lib.hid r2; replace r3 := Lib.hid r3; replace r4 := Lib.hid r4; replace hev4 := Lib.hid hev4; replace x1 := Lib.hid x1; replace x2 := Lib.hid x2))
              all_goals
                go_wp2_with fail
                go_meet
                exact ⟨T3, r1.out, hev4.out, r3.out, r4.out, x1.out, x2.out⟩
            case rest =>
              obtain ⟨T3, A3, E3, F3, N3, ⟨x1, x1r⟩, ⟨x2, x2r⟩⟩ := hcut
              obtain ⟨wv, hwv⟩ : ∃ wv, wv = wc := ⟨_, rfl⟩
              rw [← hwv] at A3 E3 x1 x2 ⊢
              clear hwv
              have hx3 : ((g1, g2), { n with val := none }) ∈ T3.F := by rw [F3]; exact (mem_aset ⟨m, hp2.out⟩).2 (.inr ⟨fun hh => hpx.out hh.symm, hx2.out⟩)
              have hRel := (A3.below (bel_dw (w := wv))).release hx3
              obtain ⟨_, c1, _, _, _, _, hq⟩ := A3.cells
              rw [E3.t, E3.a] at c1
              rw [E3.t] at hq
              rw [E3.a] at hRel
              clear l0 l1 l2 lq lz u0 u1' u2 uq uf
              obtain ⟨l0, l1, l2, lq, lz⟩ := cells3 x1
              replace hRel := Lib.hid hRel
              replace A3 := Lib.hid A3
              replace E3 := Lib.hid E3
              replace F3 := Lib.hid F3
              replace N3 := Lib.hid N3
              replace x1 := Lib.hid x1
              replace x2 := Lib.hid x2
              replace hx3 := Lib.hid hx3
              clear hDrop hAtp hun
              go_upto_region 24 with fail
              go_cut [] (fun wz => ∃ T4, AM w0 wz T4 ∧ TEv w wz T T4 ∧ T4.F = adel T3.F (g1, g2) ∧ T4.n = T3.n ∧ (wz.heap[LB]? = some (.cells #[.int .i64 g1, .int .u64 g2, .int .u8 bb.toNat] 109) ∧ T4.ρ LB = 0) ∧ (wz.heap[UB]? = some (.cells #[.int .i64 p1, .int .u64 p2, .int .u8 bp.toNat] 109) ∧ T4.ρ UB = 0))
              case first =>
                go_region_held3 (fun W' => W'.cell? ⟨T.t, 1, none⟩ = some (.pointer (some ⟨T.d.A.a, 0, none⟩)) ∧ W'.cell? ⟨LB, 0, none⟩ = some (.int .i64 g1) ∧ W'.cell? ⟨LB, 1, none⟩ = some (.int .u64 g2)) (first | exact ⟨c1, l0, l1⟩ | exact ⟨i0, i1, i2⟩ | go_keep) (first
                  | (go_at_call 55; refine hRel.out.mono ?_; rintro y w10 ⟨rfl, T4, r1, r2, r3, r4, r5, r6⟩; have hev5 := E3.out.trans ((TEv.below A3.out bel_dw).trans r2); have i0 := hev5.cell1 r1; have y1 := r2.keep (Below.heap' bel_dw x1.out) x1r; obtain ⟨i1, i2, _, _, _⟩ := cells3 y1.1; have y2 := r2.keep (Below.heap' bel_dw x2.out) x2r; replace r1 := Lib.hid r1; replace r2 := Lib.hid r2; replace r3 := Lib.hid r3; replace r4 := Lib.hid r4; replace r5 := Lib.hid r5; replace r6 := Lib.hid r6; replace hev5 := Lib.hid hev5; replace y1 := Lib.hid y1; replace y2 := Lib.hid y2))
                all_goals
                  go_wp2_with fail
                  go_meet
                  exact ⟨T4, r1.out, hev5.out, r3.out, r5.out, y1.out, y2.out⟩
              case rest =>
                obtain ⟨T4, A4, E4, F4, N4, ⟨y1, y1r⟩, ⟨y2, y2r⟩⟩ := hcut
                obtain ⟨wx2, hwx⟩ : ∃ wx2, wx2 = wc := ⟨_, rfl⟩
                rw [← hwx] at A4 E4 y1 y2 ⊢
                clear hwx l0 l1 l2 lq lz c1 hq
                obtain ⟨l0, l1, l2, lq, lz⟩ := cells3 y1
                obtain ⟨u0, u1', u2, uq, uf⟩ := cells3 y2
                have hw0 : w0.heap.size ≤ w.heap.size := h.out.am.bw.ro.bel.size
                have hfin := st_stored y1 (.int .i64 p1) (.int .u64 p2) (.int .u8 bp.toNat)
                have hA5 := A4.wr hfin.2 (fun q hq => by rw [List.mem_singleton.1 hq]; exact ⟨Nat.le_trans hw0 hLw, y1r⟩)
                have hE5 := E4.own A4 hfin.2 (fun q hq => by rw [List.mem_singleton.1 hq]; exact hLw)
                have hB5' := ATb.leafGone d1.out d2.out d3.out hx2.out hkz.out rfl hnb2.out hlim2.out hp2.out (b := bb) hbp.out hA5 (E4.r.trans E2.out.r.symm) (by rw [F4, F3.out]) (by rw [N4, N3.out, hsz2.out])
                have hcl := hfin.1
                replace hfin := Lib.hid hfin
                replace hA5 := Lib.hid hA5
                replace hE5 := Lib.hid hE5
                replace hB5' := Lib.hid hB5'
                replace hcl := Lib.hid hcl
                replace A4 := Lib.hid A4
                replace E4 := Lib.hid E4
                replace F4 := Lib.hid F4
                replace N4 := Lib.hid N4
                replace y1 := Lib.hid y1
                replace y2 := Lib.hid y2
                go_wp2_with fail
                go_meet
                exact ⟨T4, _, _, hB5'.out, hE5.out, hcl.out⟩
        case rest =>
          obtain ⟨T3, ⟨⟨j1, j2⟩, m3⟩, b3, hB3, hE3, hL3⟩ := hcut
          obtain ⟨wf, hwf⟩ : ∃ wf, wf = wc := ⟨_, rfl⟩
          rw [← hwf] at hB3 hE3 hL3 ⊢
          clear hwf
          have hJ := hB3.join
          rw [hE3.t] at hJ
          obtain ⟨l0, l1, _, lq, lz⟩ := cells3 hL3
          replace hB3 := Lib.hid hB3
          replace hE3 := Lib.hid hE3
          replace hL3 := Lib.hid hL3
          go_wp2_with fail
          refine hJ.mono ?_
          clear hJ
          rintro e8 w8 ⟨rfl, T5, a1, a2⟩
          have hE5 := hE3.out.trans a2
          replace a1 := Lib.hid a1
          replace a2 := Lib.hid a2
          replace hE5 := Lib.hid hE5
          go_wp2_with (refine bodyPost_ret (res_delete _ (.string ov) (.bool true) ?_ ?_) rfl (Hid.out ?_); iterate 2 simp only [List.getElem?_toArray, List.getElem?_cons_succ, List.getElem?_cons_zero])
          all_goals exact Lib.hid (.inr ⟨ov, hget.out, rfl, T5, a1.out, hE5.out⟩)
end Go.Proofs.YtmhlokomlngdmaaGreat
