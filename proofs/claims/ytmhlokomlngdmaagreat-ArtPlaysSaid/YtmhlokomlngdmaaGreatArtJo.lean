/- A trie's join: a node takes its only child in. -/
import Derived.Test.YtmhlokomlngdmaaGreatArtSp
namespace Go.Proofs.YtmhlokomlngdmaaGreat
open Go.RowKit
theorem adel_aset (F : AF) (h g : Hd) (m : AN) : aset (adel F g) h m = adel (aset F h m) g := by
  unfold aset adel
  rw [List.filter_map]
  congr 1
  refine List.filter_congr fun z _ => ?_
  by_cases hz : z.1 = h
  · simp [hz]
  · simp [hz]
section
variable {w0 w w' w1 : World} {T T1 : TS} {C : Cont} {x : Hd × AN}
/-- Nothing is joined. -/
def noJoin (T : TS) (x : Hd × AN) : Prop := x.1 = T.r ∨ x.2.val.isSome = true ∨ x.2.kids.length ≠ 1
def JoinEnd (w0 w : World) (T : TS) (x : Hd × AN) (e : Ending) (w' : World) : Prop :=
  e = .returned (.tuple #[]) ∧ ((noJoin T x ∧ Below w.heap.size w w') ∨
    (¬ noJoin T x ∧ ∃ b g m, x.2.kids = [(b, g)] ∧ (g, m) ∈ T.F ∧ ∃ T', AM w0 w' T' ∧ TEv w w' T T' ∧ T'.F = adel (aset T.F x.1 { m with pre := x.2.pre ++ bs [b] ++ m.pre }) g ∧ T'.n = T.n ∧ T'.free.count true = T.free.count true + 1))
set_option maxRecDepth 100000 in
set_option maxHeartbeats 16000000 in
theorem AM.join (h : AM w0 w T) (hx : x ∈ T.F) (hkid : ∀ y, y ∈ x.2.kids → ∃ m, (y.2, m) ∈ T.F ∧ m.pre.size ≤ 600) (hpz : x.2.pre.size ≤ 600) (hks : KSort x.2.kids) (hself : ∀ y, y ∈ x.2.kids → y.2 ≠ x.1) :
    Calls Tryz.prog 56 #[.pointer (some ⟨T.t, 0, none⟩), hV x.1] w (JoinEnd w0 w T x) := by
  obtain ⟨⟨g1, g2⟩, n⟩ := x
  obtain ⟨wb, hwb⟩ : ∃ wb, wb = w.alloc (.cells #[.int .i64 g1, .int .u64 g2] 77) := ⟨_, rfl⟩
  have hB : Below w.heap.size w wb := by rw [hwb]; exact (Below.refl _ _).alloc (Nat.le_refl _) _
  have hbx : wb.heap[w.heap.size]? = some (.cells #[.int .i64 g1, .int .u64 g2] 77) := by rw [hwb]; exact heap_alloc_new _ _
  have hr0 : T.ρ w.heap.size = 0 := h.bw.ro.far _ (Nat.le_refl _)
  have hb := h.below hB
  obtain ⟨e, e1, e2, e3, e4, hAt⟩ := hb.at hx
  have hAt0 := hAt wb (Below.refl _ _)
  have hnx := Lib.hid fun W (hW : Below wb.heap.size wb W) => nx_cells (Below.heap' hW e4)
  have hnxe := Lib.hid fun W (hW : Below wb.heap.size wb W) => Below.heap' hW e4
  obtain ⟨eb, heb⟩ : ∃ eb, eb = e.blk := ⟨_, rfl⟩
  rw [← heb] at hAt hAt0 hnx
  replace hAt := Lib.hid hAt
  replace heb := Lib.hid heb
  obtain ⟨Bk, hBk⟩ := hb.kidsAt (h.kid _ hx)
  have hLen : Hid (∀ W, Below wb.heap.size wb W → Calls Tryz.prog 52 #[.pointer (some ⟨n.nb, 0, none⟩)] W fun e w' => e = .returned (.int .i64 n.kids.length) ∧ w' = W) := Lib.hid fun W hW => (anLen_any (hBk.below hW)).mono fun e w' ⟨a, b⟩ => ⟨a, b.symm⟩
  have hFrom := Lib.hid fun W (hW : Below wb.heap.size wb W) => anFrom_any (hBk.below hW) 0 (by omega)
  obtain ⟨_, _, c2, c3, _, _, hq⟩ := hb.cells
  obtain ⟨b0, b1, bq, bf⟩ := cells2 hbx
  replace hB := Lib.hid hB
  replace hwb := Lib.hid hwb
  replace hbx := Lib.hid hbx
  replace hb := Lib.hid hb
  replace hx := Lib.hid hx
  replace h := Lib.hid h
  replace hkid := Lib.hid hkid
  replace hks := Lib.hid hks
  replace hself := Lib.hid hself
  clear e4 hBk
  go_enter Tryz.func56, Tryz.ntmps56
  go_upto_region 1 with fail
  rw [← hwb.out]
  go_wp2_with fail
  refine hAt0.mono ?_
  clear hAt0
  rintro y w1 ⟨rfl, hb1⟩
  obtain ⟨n1, n2, n3, n4, nq, nf⟩ := hnx.out w1 hb1
  have c2 := keep hb1 c2
  have c3 := keep hb1 c3
  have hq := Nat.lt_of_lt_of_le hq hb1.size
  have b0 := keep hb1 b0
  have b1 := keep hb1 b1
  have bq := Nat.lt_of_lt_of_le bq hb1.size
  obtain ⟨jn, hjn⟩ : ∃ jn : Bool, jn = decide (¬ ((g1, g2) = T.r ∨ n.val.isSome = true ∨ n.kids.length ≠ 1)) := ⟨_, rfl⟩
  replace hjn := Lib.hid hjn
  replace hb1 := Lib.hid hb1
  go_upto_region 2 with fail
  go_cut [31] (fun v31 wz => v31 = .bool (!jn) ∧ Below w1.heap.size w1 wz)
  case first =>
    by_cases hroot : (g1, g2) = T.r
    · have r1 : T.r.1 = g1 := by rw [← hroot]
      have r2 : T.r.2 = g2 := by rw [← hroot]
      rw [r1] at c2
      rw [r2] at c3
      have hj : jn = false := by rw [hjn.out]; exact decide_eq_false (fun hh => hh (.inl hroot))
      replace hroot := Lib.hid hroot
      clear r1 r2
      subst hj
      go_quiet (fail)
      go_wp2_with fail
      go_meet
      exact ⟨rfl, below_drewN (Below.refl _ _) _⟩
    · obtain ⟨r1, hr1⟩ : ∃ r1, r1 = T.r.1 := ⟨_, rfl⟩
      obtain ⟨r2, hr2⟩ : ∃ r2, r2 = T.r.2 := ⟨_, rfl⟩
      rw [← hr1] at c2
      rw [← hr2] at c3
      have hdiff : (g1 == r1) = false ∨ ((g1 == r1) = true ∧ (g2 == r2) = false) := by
        by_cases h1 : g1 = r1
        · exact .inr ⟨by simpa using h1, by
            have : ¬ g2 = r2 := fun h2 => hroot (Prod.ext (h1.trans hr1) (h2.trans hr2))
            simpa using this⟩
        · exact .inl (by simpa using h1)
      have hL := hLen.out
      obtain ⟨nl, hnl⟩ : ∃ nl, nl = n.kids.length := ⟨_, rfl⟩
      obtain ⟨nh, hnh⟩ : ∃ nh, nh = n.val.isSome := ⟨_, rfl⟩
      rw [← hnl] at hL
      rw [← hnh] at n3
      have hj : jn = (!nh && decide (nl = 1)) := by
        rw [hjn.out, hnl, hnh]
        cases hv : n.val.isSome with
        | true => simp
        | false =>
          by_cases hl : n.kids.length = 1
          · simp [hl, hroot]
          · simp [hl]
      replace hL := Lib.hid hL
      replace hnl := Lib.hid hnl
      replace hnh := Lib.hid hnh
      replace hr1 := Lib.hid hr1
      replace hr2 := Lib.hid hr2
      replace hroot := Lib.hid hroot
      have hb1' := hb1.out
      rcases hdiff with h1 | ⟨h1, h2⟩
      all_goals
        cases nh with
        | true =>
          simp only [Bool.not_true, Bool.false_and] at hj
          subst hj
          go_quiet (fail)
          go_wp2_with fail
          go_meet
          exact ⟨rfl, below_drewN (Below.refl _ _) _⟩
        | false =>
          simp only [Bool.not_false, Bool.true_and] at hj
          by_cases hl : nl = 1
          · subst hl
            simp only [decide_true] at hj
            subst hj
            have hL := hL.out
            rw [show (((1 : Nat) : Int)) = 1 from rfl] at hL
            replace hL := Lib.hid hL
            go_quiet ((go_at_call 52; exact Calls.quiet_of_same (hL.out _ (below_drewN hb1' _))))
            go_wp2_with fail
            go_meet
            exact ⟨rfl, below_drewN (Below.refl _ _) _⟩
          · have hl3 : ((nl : Int) != 1) = true := by simp; omega
            rw [decide_eq_false hl] at hj
            subst hj
            go_quiet ((go_at_call 52; exact Calls.quiet_of_same (hL.out _ (below_drewN hb1' _))))
            go_wp2_with fail
            go_meet
            exact ⟨by simp, below_drewN (Below.refl _ _) _⟩
  case rest =>
    obtain ⟨rfl, hbw⟩ := hcut
    obtain ⟨wd, hwd⟩ : ∃ wd, wd = wc := ⟨_, rfl⟩
    rw [← hwd] at hbw ⊢
    clear hwd
    have hb2 := hb1.out.trans (hbw.mono hb1.out.size)
    have hBd := hB.out.trans (hb2.mono hB.out.size)
    clear n1 n2 n3 n4 nq nf c2 c3 b0 b1 bq
    cases jn with
    | false =>
      have hno : noJoin T ((g1, g2), n) := Classical.byContradiction fun hh => by
        have := of_decide_eq_false hjn.out.symm
        exact this hh
      replace hbw := Lib.hid hbw
      replace hb2 := Lib.hid hb2
      replace hBd := Lib.hid hBd
      replace hno := Lib.hid hno
      go_wp2_with fail
      exact ⟨rfl, .tuple #[], by simp [results, Tryz.results56, go_sem], rfl, .inl ⟨hno.out, hBd.out⟩⟩
    | true =>
      have hyes : ¬ noJoin T ((g1, g2), n) := by
        have h1 := of_decide_eq_true hjn.out.symm
        exact h1
      obtain ⟨b, g, hkg⟩ : ∃ b g, n.kids = [(b, g)] := by
        have h1 : n.kids.length = 1 := Classical.byContradiction fun hh => hyes (.inr (.inr hh))
        match hk : n.kids, h1 with
        | [(b, g)], _ => exact ⟨b, g, rfl⟩
      obtain ⟨m, hm, hmz⟩ := hkid.out (b, g) (by show (b, g) ∈ n.kids; rw [hkg]; simp)
      have hgx : g ≠ (g1, g2) := hself.out (b, g) (by show (b, g) ∈ n.kids; rw [hkg]; simp)
      have hF := hFrom.out wd hb2
      rw [show ((g1, g2), n).2.kids = [(b, g)] from hkg, show kfrom [(b, g)] 0 = some (b, g) from by simp [kfrom], fromV_o] at hF
      simp only [oB, oH, Option.isSome_some] at hF
      have hA2 := hb.out.below hb2
      obtain ⟨e', e1', e2', e3', e4', hAt'⟩ := hA2.at hm
      obtain ⟨n1, n2, n3, n4, nq, nf⟩ := hnx.out wd hb2
      have hnx2 := Lib.hid fun W (hW : Below wd.heap.size wd W) => nx_cells (Below.heap' hW e4')
      have hbx2 := Below.heap' hb2 hbx.out
      replace hAt' := Lib.hid hAt'
      replace hbw := Lib.hid hbw
      replace hb2 := Lib.hid hb2
      replace hBd := Lib.hid hBd
      replace hyes := Lib.hid hyes
      replace hkg := Lib.hid hkg
      replace hm := Lib.hid hm
      replace hA2 := Lib.hid hA2
      replace hbx2 := Lib.hid hbx2
      obtain ⟨eb2, heb2⟩ : ∃ eb2, eb2 = e'.blk := ⟨_, rfl⟩
      rw [← heb2] at hAt' hnx2
      replace heb2 := Lib.hid heb2
      clear e4'
      go_wp2_with fail
      refine hF.mono ?_
      clear hF
      rintro e5 w5 ⟨rfl, hb5⟩
      have hQ5 := heap_alloc_new w5 (.cells #[.int .i64 g.1, .int .u64 g.2] 77)
      have hA5 : Below w5.heap.size w5 (w5.alloc (.cells #[.int .i64 g.1, .int .u64 g.2] 77)) := (Below.refl _ _).alloc (Nat.le_refl _) _
      have hq0 := (hA2.out.below hb5).bw.ro.far _ (Nat.le_refl w5.heap.size)
      have hb6 := hb5.trans (hA5.mono hb5.size)
      go_upto_region 4 with fail
      generalize w5.alloc (.cells #[.int .i64 g.1, .int .u64 g.2] 77) = w6 at *
      obtain ⟨QB, hQB⟩ : ∃ QB, QB = w5.heap.size := ⟨_, rfl⟩
      rw [← hQB] at hQ5 hq0 ⊢
      obtain ⟨p0, p1, pq, pf⟩ := cells2 hQ5
      have hAt6 := hAt'.out w6 hb6
      replace hb6 := Lib.hid hb6
      replace hb5 := Lib.hid hb5
      replace hQ5 := Lib.hid hQ5
      replace hQB := Lib.hid hQB
      clear n1 n2 n3 n4 nq nf hA5
      go_wp2_with fail
      refine hAt6.mono ?_
      clear hAt6
      rintro e7 w7 ⟨rfl, hb7⟩
      have hb27 := hb6.out.trans (hb7.mono hb6.out.size)
      obtain ⟨m1, m2, m3, m4, mq, mf⟩ := hnx2.out w7 hb27
      have hL7 := heap_alloc_new w7 (.cells #[.string m.pre, .string (m.val.getD s0), .bool m.val.isSome, .pointer (some ⟨m.nb, 0, none⟩)] 75)
      have hA7 : Below w7.heap.size w7 (w7.alloc (.cells #[.string m.pre, .string (m.val.getD s0), .bool m.val.isSome, .pointer (some ⟨m.nb, 0, none⟩)] 75)) := (Below.refl _ _).alloc (Nat.le_refl _) _
      have hl0 := (hA2.out.below hb27).bw.ro.far _ (Nat.le_refl w7.heap.size)
      have hb28 := hb27.trans (hA7.mono hb27.size)
      have hQ8 := Below.heap' (hb7.trans (hA7.mono hb7.size)) hQ5.out
      go_upto_region 5 with fail
      generalize w7.alloc (.cells #[.string m.pre, .string (m.val.getD s0), .bool m.val.isSome, .pointer (some ⟨m.nb, 0, none⟩)] 75) = w8 at *
      obtain ⟨LB, hLB⟩ : ∃ LB, LB = w7.heap.size := ⟨_, rfl⟩
      rw [← hLB] at hL7 hl0 ⊢
      obtain ⟨l0, l1, l2, l3, lq, lf⟩ := cells4 hL7
      obtain ⟨n1, n2, n3, n4, nq, nf⟩ := hnx.out w8 (hb2.out.trans (hb28.mono hb2.out.size))
      obtain ⟨sb, hsb⟩ : ∃ sb, sb = bs [b] := ⟨_, rfl⟩
      have hsbz : sb.size = 1 := by rw [hsb]; rfl
      have hno1 : ¬ 9223372036854775807 < n.pre.size + sb.size := by omega
      have hno2 : ¬ 9223372036854775807 < (n.pre ++ sb).size + m.pre.size := by rw [ByteArray.size_append]; omega
      have hcv : (convert 98 9 (.slice (some ⟨w8.heap.size, 0, none⟩) 1 1)).run Tryz.prog ((w8.alloc (.cells #[.int .u8 b.toNat] 5)).drew) = .ok (.string sb) ((w8.alloc (.cells #[.int .u8 b.toNat] 5)).drew) := by
        rw [hsb]
        exact run_convert_bytes_back ((w8.alloc (.cells #[.int .u8 b.toNat] 5)).drew) 98 9 5 ⟨w8.heap.size, 0, none⟩ 1 [b] Tryz.underlying98 Tryz.underlying5 Tryz.underlying9 (fun j hj => by
          have : j = 0 := by simpa using hj
          subst this
          rw [show (Addr.add ⟨w8.heap.size, 0, none⟩ 0) = (⟨w8.heap.size, 0, none⟩ : Addr) from rfl, cell_of_heap (show ((w8.alloc (.cells #[.int .u8 b.toNat] 5)).drew).heap[w8.heap.size]? = some (.cells #[.int .u8 b.toNat] 5) from heap_alloc_new w8 _)]
          rfl)
      replace hsb := Lib.hid hsb
      replace hsbz := Lib.hid hsbz
      replace hb27 := Lib.hid hb27
      replace hb28 := Lib.hid hb28
      replace hb7 := Lib.hid hb7
      replace hL7 := Lib.hid hL7
      replace hQ8 := Lib.hid hQ8
      replace hLB := Lib.hid hLB
      clear m1 m2 m3 m4 mq mf hA7 p0 p1 pq pf
      go_region
      have hlw : w.heap.size ≤ LB := by rw [hLB.out]; exact (hBd.out.trans (hb27.out.mono hBd.out.size)).size
      have hw0 : w0.heap.size ≤ w.heap.size := h.out.bw.ro.bel.size
      have hlx : w.heap.size ≠ LB := by
        have h1 := heap_lt hbx2.out
        have h2 := hb27.out.size
        rw [hLB.out]; omega
      have hlq : QB ≠ LB := by
        have h1 := heap_lt hQ5.out
        have h2 := hb7.out.size
        rw [hLB.out]; omega
      have s1 : (w8.setCell ⟨LB, 0, none⟩ (.string (n.pre ++ sb ++ m.pre))).heap[LB]? = some (.cells #[.string (n.pre ++ sb ++ m.pre), .string (m.val.getD s0), .bool m.val.isSome, .pointer (some ⟨m.nb, 0, none⟩)] 75) := heap_set_same hL7.out 0 _
      have s2 : Upd [LB] w8 (w8.setCell ⟨LB, 0, none⟩ (.string (n.pre ++ sb ++ m.pre))) := Upd.setCell (Upd.refl _ _) (by simp) _
      have hbd8 := hBd.out.trans (hb28.out.mono hBd.out.size)
      have hA8 := (hA2.out.below hb28.out).wr s2 (fun q hq => by rw [List.mem_singleton.1 hq]; exact ⟨Nat.le_trans hw0 hlw, hl0⟩)
      have hev8 := (TEv.below h.out hbd8).own (hA2.out.below hb28.out) s2 (fun q hq => by rw [List.mem_singleton.1 hq]; exact hlw)
      have hQ9 := s2.heap hQ8.out (fun hm => hlq (List.mem_singleton.1 hm))
      have hX9 := s2.heap (Below.heap' hb28.out hbx2.out) (fun hm => hlx (List.mem_singleton.1 hm))
      obtain ⟨wg, hwg⟩ : ∃ wg, wg = w8.setCell ⟨LB, 0, none⟩ (.string (n.pre ++ sb ++ m.pre)) := ⟨_, rfl⟩
      rw [← hwg] at s1 hA8 hev8 hQ9 hX9 ⊢
      replace hwg := Lib.hid hwg
      have hbg : Below wg.heap.size wg ((wg.alloc (.cells #[.int .u8 b.toNat] 5)).drew) := ((Below.refl wg.heap.size wg).alloc (Nat.le_refl _) _).drew
      have s3 := Below.heap' hbg s1
      have hA9 := hA8.below hbg
      have hev9 := hev8.trans (TEv.below hA8 hbg)
      have hQ10 := Below.heap' hbg hQ9
      have hX10 := Below.heap' hbg hX9
      generalize (wg.alloc (.cells #[.int .u8 b.toNat] 5)).drew = w9 at *
      have hRel := Lib.hid ((hA9.below (bel_dw (w := w9))).release hm.out)
      have hevd := hev9.trans (TEv.below hA9 (bel_dw (w := w9)))
      obtain ⟨_, c1, _, _, _, _, hq9⟩ := hA9.cells
      obtain ⟨p0, p1, pq, pf⟩ := cells2 hQ10
      have hr9 : T.ρ w.heap.size = 0 := hr0
      replace s1 := Lib.hid s1
      replace s2 := Lib.hid s2
      replace s3 := Lib.hid s3
      replace hA8 := Lib.hid hA8
      replace hev8 := Lib.hid hev8
      replace hA9 := Lib.hid hA9
      replace hev9 := Lib.hid hev9
      replace hevd := Lib.hid hevd
      replace hQ9 := Lib.hid hQ9
      replace hX9 := Lib.hid hX9
      replace hQ10 := Lib.hid hQ10
      replace hX10 := Lib.hid hX10
      clear l0 l1 l2 l3 lq lf n1 n2 n3 n4 nq nf hcv hbg hbd8 hno1 hno2
      go_upto_region 6 with fail
      go_cut [] (fun wz => ∃ T3, AM w0 wz T3 ∧ TEv w wz T T3 ∧ T3.F = adel T.F g ∧ T3.K = T.K ∧ T3.n = T.n ∧ T3.free.count true = T.free.count true + 1 ∧
        (wz.heap[LB]? = some (.cells #[.string (n.pre ++ sb ++ m.pre), .string (m.val.getD s0), .bool m.val.isSome, .pointer (some ⟨m.nb, 0, none⟩)] 75) ∧ T3.ρ LB = 0) ∧ wz.heap[w.heap.size]? = some (.cells #[.int .i64 g1, .int .u64 g2] 77) ∧ T3.ρ w.heap.size = 0)
      case first =>
        go_region_held3 (fun W' => W'.cell? ⟨T.t, 1, none⟩ = some (.pointer (some ⟨T.d.A.a, 0, none⟩)) ∧ W'.cell? ⟨QB, 0, none⟩ = some (.int .i64 g.1) ∧ W'.cell? ⟨QB, 1, none⟩ = some (.int .u64 g.2)) (first | exact ⟨c1, p0, p1⟩ | exact ⟨i0, i1, i2⟩ | go_keep) (first
          | (go_at_call 55; refine hRel.out.mono ?_; rintro y w10 ⟨rfl, T3, r1, r2, r3, r4, r5, r6⟩; have i0 := r2.cell1 r1; obtain ⟨i1, i2, _, _⟩ := cells2 (r2.keep (Below.heap' bel_dw hQ10.out) hq0).1; have x1 := r2.keep (Below.heap' bel_dw s3.out) hl0; have x2 := r2.keep (Below.heap' bel_dw hX10.out) hr9; replace r1 := Lib.hid r1; replace r2 := Lib.hid r2; replace r3 := Lib.hid r3; replace r4 := Lib.hid r4; replace r5 := Lib.hid r5; replace r6 := Lib.hid r6; replace x1 := Lib.hid x1; replace x2 := Lib.hid x2))
        all_goals
          go_wp2_with fail
          go_meet
          exact ⟨T3, r1.out, hevd.out.trans r2.out, r3.out, r4.out, r5.out, r6.out, x1.out, x2.out⟩
      case rest =>
        obtain ⟨T3, hA3, hev3, hF3, hK3, hn3, hc3, ⟨hLc, hLr⟩, hXc, hXr⟩ := hcut
        obtain ⟨wh, hwh⟩ : ∃ wh, wh = wc := ⟨_, rfl⟩
        rw [← hwh] at hA3 hev3 hLc hXc ⊢
        clear hwh
        have hx3 : ((g1, g2), n) ∈ T3.F := by rw [hF3]; exact mem_adel.2 ⟨fun h => hgx h.symm, hx.out⟩
        obtain ⟨e8, e81, e82, e83, e84, hAt3⟩ := hA3.at hx3
        rw [hev3.t] at hAt3
        obtain ⟨ec, hec⟩ : ∃ ec, ec = e8.blk := ⟨_, rfl⟩
        have her : T3.ρ e8.blk ≠ 0 := by
          have := ((hA3.bw.ars.ar _ _ hA3.hd).th e8 e81).1
          omega
        have heh : ¬ LB = ec := fun h => her (by rw [← hec, ← h]; exact hLr)
        have hex : ¬ w.heap.size = ec := fun h => her (by rw [← hec, ← h]; exact hXr)
        obtain ⟨v0, v1, v2, v3, vq2, vf2⟩ := cells4 hLc
        obtain ⟨b0, b1, bq, bf⟩ := cells2 hXc
        have hnxb := Lib.hid fun W (hW : Below wh.heap.size wh W) => (by rw [hec]; exact Below.heap' hW e84 : W.heap[ec]? = some (.cells (.int .u64 e8.gen :: nxs n).toArray 129))
        have hfin : Hid (∀ w9 w10, Below wh.heap.size wh w9 → Upd [ec] w9 w10 → w10.heap[ec]? = some (.cells (.int .u64 e8.gen :: nxs { m with pre := n.pre ++ sb ++ m.pre }).toArray 129) → JoinEnd w0 w T ((g1, g2), n) (.returned (.tuple #[])) w10) := Lib.hid fun w9 w10 hb9 hu hc => by
          rw [hec] at hu hc
          obtain ⟨T5, a1, a2, a3, a4, a5, a6⟩ := (hA3.below hb9).store hx3 e81 e82 e83 { m with pre := n.pre ++ sb ++ m.pre } (by rw [hK3]; exact h.out.kid _ hm.out) hu hc
          refine ⟨rfl, .inr ⟨hyes.out, b, g, m, hkg.out, hm.out, T5, a1, (hev3.trans (TEv.below hA3 hb9)).trans a2, ?_, a5.trans hn3, by rw [a6]; exact hc3⟩⟩
          rw [a3, hF3, adel_aset, hsb.out]
        rw [← hec] at hAt3
        have heq : ec < wh.heap.size := by rw [hec]; exact heap_lt e84
        replace hAt3 := Lib.hid hAt3
        replace hA3 := Lib.hid hA3
        replace hev3 := Lib.hid hev3
        replace hF3 := Lib.hid hF3
        replace hK3 := Lib.hid hK3
        replace hn3 := Lib.hid hn3
        replace hc3 := Lib.hid hc3
        replace hLc := Lib.hid hLc
        replace hXc := Lib.hid hXc
        replace hec := Lib.hid hec
        have heh2 : ¬ ec = LB := fun h => heh h.symm
        have hex2 : ¬ ec = w.heap.size := fun h => hex h.symm
        clear e84 hx3 c1 hq9 p0 p1 pq pf
        go_upto_region 7 with fail
        go_region_held3 (fun W' => W'.cell? ⟨w.heap.size, 0, none⟩ = some (.int .i64 g1) ∧ W'.cell? ⟨w.heap.size, 1, none⟩ = some (.int .u64 g2) ∧ W'.cell? ⟨LB, 0, none⟩ = some (.string (n.pre ++ sb ++ m.pre)) ∧ W'.cell? ⟨LB, 1, none⟩ = some (.string (m.val.getD s0)) ∧ W'.cell? ⟨LB, 2, none⟩ = some (.bool m.val.isSome) ∧ W'.cell? ⟨LB, 3, none⟩ = some (.pointer (some ⟨m.nb, 0, none⟩))) (first | exact ⟨b0, b1, v0, v1, v2, v3⟩ | exact ⟨i0, i1, i2, i3, i4, i5⟩ | exact ⟨j0, j1, j2, j3, j4, j5⟩ | go_keep) (first
          | (go_at_call 41; refine (hAt3.out _ bel_dw).mono ?_; rintro y w9 ⟨rfl, hb9⟩; have hw9 : Below wh.heap.size wh w9 := bel_dr (k := 1) hb9; have i0 := keep hw9 b0; have i1 := keep hw9 b1; have i2 := keep hw9 v0; have i3 := keep hw9 v1; have i4 := keep hw9 v2; have i5 := keep hw9 v3; have hc9 := hnxb.out w9 hw9; have hst := nx_stored hc9 { m with pre := n.pre ++ sb ++ m.pre }; simp only at hst; obtain ⟨x1, x2, x3, x4, xq, xf⟩ := nx_cells hc9; have j0 := hst.2.cell i0 (fun hm => hex (List.mem_singleton.1 hm)); have j1 := hst.2.cell i1 (fun hm => hex (List.mem_singleton.1 hm)); have j2 := hst.2.cell i2 (fun hm => heh (List.mem_singleton.1 hm)); have j3 := hst.2.cell i3 (fun hm => heh (List.mem_singleton.1 hm)); have j4 := hst.2.cell i4 (fun hm => heh (List.mem_singleton.1 hm)); have j5 := hst.2.cell i5 (fun hm => heh (List.mem_singleton.1 hm)); replace hst := Lib.hid hst; replace hw9 := Lib.hid hw9; replace hb9 := Lib.hid hb9; replace hc9 := Lib.hid hc9))
        all_goals
          have hE := Lib.hid (hfin.out w9 _ hw9.out hst.out.2 hst.out.1)
          go_wp2_with fail
          exact ⟨rfl, .tuple #[], by simp [results, Tryz.results56, go_sem], hE.out⟩
end
end Go.Proofs.YtmhlokomlngdmaaGreat
