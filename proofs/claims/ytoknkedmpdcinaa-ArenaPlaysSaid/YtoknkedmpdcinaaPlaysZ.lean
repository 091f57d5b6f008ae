/- The walk of the law ArenaPlays: for any size, any acts and either answer it returns true. -/
import Derived.Test.YtoknkedmpdcinaaPlaysB
import Derived.Test.YtoknkedmpdcinaaArenaAwake
import Derived.Test.YtoknkedmpdcinaaHeldG
namespace Go.Proofs.Ytoknkedmpdcinaa
open Go.RowKit
theorem count_free_le (SL : List Sl) : (freeOf SL).count true ≤ SL.length := by
  have := List.count_le_length (a := true) (l := freeOf SL)
  simpa [freeOf] using this
set_option maxRecDepth 100000 in
theorem handles_nil (w : World) : Calls Try.prog 32 #[.pointer none] w fun e w' => e = .returned (.slice none 0 0) ∧ Below w.heap.size w w' := by
  go_enter Try.func32, Try.ntmps32
  go_wp2_with fail
  go_ret
  exact ⟨rfl, Below.refl _ _⟩
/-- What the law's innermost loop reads. -/
structure QA (w0 w : World) (xb : Nat) (P : PBk) (wp : RB) (SL : List Sl) (told : List (Int × Int)) (av bv : Value) (M : List (Int × Int)) : Prop where
  aw : AW w0 w xb P wp SL SL told []
  ar : Row 0 40 2 hcell w av M
  br : Row 0 40 2 hcell w bv M
theorem QA.below {w0 w w' : World} {xb : Nat} {P : PBk} {wp : RB} {SL : List Sl} {told : List (Int × Int)} {av bv : Value} {M : List (Int × Int)} (h : QA w0 w xb P wp SL told av bv M) (hb : Below w.heap.size w w') : QA w0 w' xb P wp SL told av bv M := ⟨h.aw.below hb, h.ar.below hb, h.br.below hb⟩
theorem Row.base0 {α : Type} {base k : Nat} {e : TypeId} {f : α → List Value} {w : World} {v : Value} {L : List α} (h : Row base e k f w v L) : Row 0 e k f w v L := h.rebase (fun _ _ => Nat.zero_le _)
set_option maxRecDepth 100000 in
set_option maxHeartbeats 4000000 in
theorem arenaPlays_walk (n : Int) (s : Option Addr) (len cap : Nat) (rows : List (List Value)) (nn : Bool) (w : World) (_ : (Lit.int .i64 n).wf = true) (hr : IsFlat actK w s len rows) :
    Calls Try.prog 7 #[.int .i64 n, .slice s len cap, .bool nn] w fun e w' => e = .returned (.bool true) ∧ Below w.heap.size w w' := by
  have hlm : len ≤ maxLen := by
    rcases hr with ⟨h0, _⟩ | ⟨_, _, _, h1, _⟩
    · subst h0; exact Nat.zero_le _
    · exact h1
  have hro := Lib.hid (act_row hr)
  go_enter Try.func7, Try.ntmps7
  go_wp2_with fail
  refine (awake2_any _).mono ?_
  rintro e w1 ⟨rfl, hb1⟩
  have hr1 := hr.below hb1
  have HB1 := Lib.hid hb1
  clear hb1 hr
  have hgr := great_any s len cap rows w1 hr1 hlm
  replace hr1 := Lib.hid hr1
  replace hgr := Lib.hid hgr
  unfold maxLen at hlm
  go_wp2_with fail
  refine hgr.out.mono ?_
  clear hgr
  rintro e w2 ⟨rfl | ⟨rfl, hl⟩, hb2⟩
  · go_wp2_with fail
    go_ret
    exact ⟨rfl, HB1.out.trans (hb2.mono HB1.out.size)⟩
  have HB2 := Lib.hid (HB1.out.trans (hb2.mono HB1.out.size))
  clear hb2 hr1 HB1
  by_cases hn : 1 ≤ n ∧ n ≤ 4096
  · obtain ⟨m, rfl⟩ := Int.eq_ofNat_of_zero_le (show 0 ≤ n by omega)
    obtain ⟨hn1, hn2⟩ := hn
    have hm1 : 1 ≤ m := by omega
    have hm2 : m ≤ 4096 := by omega
    as_aux_lemma =>
      go_wp2_with fail
      refine (arNewPool_some m w2 hm1 hm2).mono ?_
      rintro e w3 ⟨p, g, f, rfl, hb3, hp3, hg3, hf3, hpo⟩
      replace hb3 := Lib.hid hb3
      replace hpo := Lib.hid hpo
      go_wp2_with fail
      refine (r2NewPool_some m w3 hm1 hm2).mono ?_
      rintro e w4 ⟨ra, rc, rfl, hR, hb4, hq⟩
      obtain ⟨ρ, ho, ha, hrf⟩ := start_some HB2.out hb3.out hp3 hg3 hf3 hpo.out hb4 hR hq
      replace ho := Lib.hid ho
      replace ha := Lib.hid ha
      replace hrf := Lib.hid hrf
      clear hb3 hpo hR hb4 hq hp3 hg3 hf3
      generalize w3.heap.size = rb at *
      go_wp2_with fail
      refine (AStr.gNew (some ⟨p, 0, none⟩) [] w4).mono ?_
      rintro e w5 ⟨rfl, hb5, hs5, hA5⟩
      replace hb5 := Lib.hid hb5
      replace hs5 := Lib.hid hs5
      replace hA5 := Lib.hid hA5
      go_wp2_with fail
      refine (AThing.gNew (some ⟨p, 0, none⟩) [] w5).mono ?_
      rintro e w6 ⟨rfl, hb6, hs6, hA6⟩
      replace hb6 := Lib.hid hb6
      replace hs6 := Lib.hid hs6
      replace hA6 := Lib.hid hA6
      go_wp2_with fail
      refine (AStr.gNew (some ⟨p, 0, none⟩) [] w6).mono ?_
      rintro e w7 ⟨rfl, hb7, hs7, hA7⟩
      have hst := AX.start (P := some (p, g, f)) (wp := some (rb, ra, rc)) ho.out ha.out (by intro s hs; rw [List.mem_replicate] at hs; rw [hs.2]; rfl) (by simp; omega) hrf.out (by intro q hq; injection hq with hq; rw [← hq]) hb5.out hs5.out hA5.out hb6.out hs6.out hA6.out hb7 hs7 hA7
      replace hst := Lib.hid hst
      clear ho ha hrf hb5 hs5 hA5 hb6 hs6 hA6 hb7 hs7 hA7
      go_wp2_with fail
      obtain ⟨w8, hw8⟩ : ∃ w8, w8 = w7.alloc (.cells #[.pointer (paddr (some (p, g, f))), .pointer (some ⟨w4.heap.size + 1, 0, none⟩), .pointer (some ⟨w6.heap.size + 1, 0, none⟩), .pointer (some ⟨w5.heap.size + 1, 0, none⟩), rptr (wpo (some (rb, ra, rc))), .slice none 0 0] 73) := ⟨_, rfl⟩
      rw [← hw8] at hst
      rw [show w7.alloc (.cells #[.pointer (some ⟨p, 0, none⟩), .pointer (some ⟨w4.heap.size + 1, 0, none⟩), .pointer (some ⟨w6.heap.size + 1, 0, none⟩), .pointer (some ⟨w5.heap.size + 1, 0, none⟩), .pointer (some ⟨rb, 0, none⟩), .slice none 0 0] 73) = w8 from hw8.symm]
      clear hw8
      generalize w7.heap.size = xb at *
      have hFr : Hid (∀ W SLa tl, AW w W xb (some (p, g, f)) (some (rb, ra, rc)) SLa SLa tl [] → Calls Try.prog 16 #[.pointer (some ⟨p, 0, none⟩)] W fun e w' => e = .returned (.int .i64 ((freeOf SLa).count true : Nat)) ∧ W = w') := Lib.hid (fun W SLa tl ha => ha.pFree)
      have hRf : Hid (∀ W SLa tl, AW w W xb (some (p, g, f)) (some (rb, ra, rc)) SLa SLa tl [] → Calls Try.prog 29 #[.pointer (some ⟨rb, 0, none⟩)] W fun e w' => e = .returned (.int .i64 ((freeOf SLa).count true : Nat)) ∧ W = w') := Lib.hid (fun W SLa tl ha => ha.rFree)
      have hRo : Hid (∀ W SLa tl (z : Int), AW w W xb (some (p, g, f)) (some (rb, ra, rc)) SLa SLa tl [] → Calls Try.prog 21 #[.pointer (some ⟨p, 0, none⟩), .int .i64 z] W fun e w' => e = .returned (.bool (decide (z ≤ ((freeOf SLa).count true : Nat)))) ∧ AW w w' xb (some (p, g, f)) (some (rb, ra, rc)) SLa SLa tl []) := Lib.hid (fun W SLa tl z ha => ha.pRoom z)
      have hLi : Hid (∀ W SLa tl, SLa.length = m → AW w W xb (some (p, g, f)) (some (rb, ra, rc)) SLa SLa tl [] → Calls Try.prog 19 #[.pointer (some ⟨p, 0, none⟩)] W fun e w' => e = .returned (.int .i64 ((m : Int) - ((freeOf SLa).count true : Nat))) ∧ AW w w' xb (some (p, g, f)) (some (rb, ra, rc)) SLa SLa tl []) := Lib.hid (fun W SLa tl hm ha => by rw [← hm]; exact ha.pLive)
      have hHd : Hid (∀ W SLa tl (j : Nat), 1 ≤ j ∧ j ≤ 3 → AW w W xb (some (p, g, f)) (some (rb, ra, rc)) SLa SLa tl [] → Calls Try.prog 31 #[.pointer (some ⟨rb, 0, none⟩), .int .i64 j] W fun e w' => ∃ a c, e = .returned (.slice a (handsR j SLa).length c) ∧ Row W.heap.size 40 2 hcell w' (.slice a (handsR j SLa).length c) (handsR j SLa) ∧ AW w w' xb (some (p, g, f)) (some (rb, ra, rc)) SLa SLa tl [] ∧ Below W.heap.size W w') := Lib.hid (fun W SLa tl j _ ha => ha.rHandles)
      go_loopg [12] len (fun gk iv wr => ∃ (k : Nat) (SL : List Sl) (told : List (Int × Int)), gk = len - k ∧ k ≤ len ∧ iv = .int .i64 k ∧ AW w wr xb (some (p, g, f)) (some (rb, ra, rc)) SL SL told [] ∧ told.length ≤ k ∧ SL.length = m)
      case atStart => exact ⟨0, _, [], rfl, Nat.zero_le _, rfl, hst.out, Nat.le_refl _, List.length_replicate ..⟩
      case round =>
        obtain ⟨k, SL, told, rfl, hk, rfl, hA, hto, hSL⟩ := hrel
        clear hst
        by_cases hlt : k < len
        · obtain ⟨b, off, rfl, hbw, d, inn, x, sl, gn, ago, hact, hwf, hinn, hxs, hsl, hgn, hago⟩ := hro.out k hlt
          obtain ⟨inn, rfl⟩ := Int.eq_ofNat_of_zero_le hinn.1
          obtain ⟨ago, rfl⟩ := Int.eq_ofNat_of_zero_le hago.1
          obtain ⟨q0, q1, q2, q3, q4, q5⟩ := hact
          have e0 := keep hA.bel q0
          have e1 := keep hA.bel q1
          have e2 := keep hA.bel q2
          have e3 := keep hA.bel q3
          have e4 := keep hA.bel q4
          have e5 := keep hA.bel q5
          have hcl := Lib.hid (does_any (hA.below (Below.refl wr.heap.size wr).drew) d inn (by omega) x sl gn ago (by omega) (by omega))
          obtain ⟨l0, lb⟩ := hA.rlen
          rw [hSL] at l0
          replace hSL := Lib.hid hSL
          replace hto := Lib.hid hto
          replace hA := Lib.hid hA
          replace hwf := Lib.hid hwf
          replace hxs := Lib.hid hxs
          replace hsl := Lib.hid hsl
          replace hgn := Lib.hid hgn
          have hQ := Lib.hid (And.intro q0 (And.intro q1 (And.intro q2 (And.intro q3 (And.intro q4 q5)))))
          clear q0 q1 q2 q3 q4 q5
          go_upto_region 13 with fail
          go_cut [118] (fun v wx => v = .bool false ∧ ∃ SL' told', AW w wx xb (some (p, g, f)) (some (rb, ra, rc)) SL' SL' told' [] ∧ told'.length ≤ k + 1 ∧ SL'.length = m)
          case first =>
            go_region_held3 (fun w' => w'.cell? ⟨b, off + k * 6, none⟩ = some (.int .i64 d) ∧ w'.cell? ⟨b, off + k * 6 + 1, none⟩ = some (.int .u8 inn) ∧ w'.cell? ⟨b, off + k * 6 + 2, none⟩ = some (.string x) ∧ w'.cell? ⟨b, off + k * 6 + 3, none⟩ = some (.int .i64 sl) ∧ w'.cell? ⟨b, off + k * 6 + 4, none⟩ = some (.int .u64 gn) ∧ w'.cell? ⟨b, off + k * 6 + 5, none⟩ = some (.int .u8 ago) ∧ w'.cell? ⟨rb, 0, none⟩ = some (.slice ra m rc)) (first | exact ⟨i0, i1, i2, i3, i4, i5, i6⟩ | go_keep) (first
              | (go_at_call 28; refine hcl.out.mono ?_; rintro z w5 ⟨rfl, SL', told', h5, hl5, ht5⟩; replace hl5 := Lib.hid (hl5.trans hSL.out); obtain ⟨q0, q1, q2, q3, q4, q5⟩ := hQ.out; have i0 := keep (AW.bel h5) q0; have i1 := keep (AW.bel h5) q1; have i2 := keep (AW.bel h5) q2; have i3 := keep (AW.bel h5) q3; have i4 := keep (AW.bel h5) q4; have i5 := keep (AW.bel h5) q5; clear q0 q1 q2 q3 q4 q5; obtain ⟨i6, bl⟩ := h5.rlen; rw [hl5.out] at i6; have hv : IntKind.i64.wrap ((m : Int) - ((freeOf SL').count true : Nat)) = (m : Int) - ((freeOf SL').count true : Nat) := IntWalk.i64_in _ (by have := count_free_le SL'; rw [hl5.out] at this; omega); replace h5 := Lib.hid h5; replace ht5 := Lib.hid ht5)
              | (go_at_call 16; refine (hFr.out _ _ _ h5.out).mono ?_; rintro z w6 ⟨rfl, rfl⟩)
              | (go_at_call 29; refine (hRf.out _ _ _ h5.out).mono ?_; rintro z w6 ⟨rfl, rfl⟩)
              | (go_at_call 19; refine (hLi.out _ _ _ hl5.out h5.out).mono ?_; rintro z w6 ⟨rfl, h6⟩; obtain ⟨q0, q1, q2, q3, q4, q5⟩ := hQ.out; have i0 := keep (AW.bel h6) q0; have i1 := keep (AW.bel h6) q1; have i2 := keep (AW.bel h6) q2; have i3 := keep (AW.bel h6) q3; have i4 := keep (AW.bel h6) q4; have i5 := keep (AW.bel h6) q5; clear q0 q1 q2 q3 q4 q5; obtain ⟨i6, bl⟩ := h6.rlen; rw [hl5.out] at i6; have h5 := Lib.hid h6; clear h6)
              | (go_at_call 21; refine (hRo.out _ _ _ _ h5.out).mono ?_; rintro z w6 ⟨rfl, h6⟩; obtain ⟨q0, q1, q2, q3, q4, q5⟩ := hQ.out; have i0 := keep (AW.bel h6) q0; have i1 := keep (AW.bel h6) q1; have i2 := keep (AW.bel h6) q2; have i3 := keep (AW.bel h6) q3; have i4 := keep (AW.bel h6) q4; have i5 := keep (AW.bel h6) q5; clear q0 q1 q2 q3 q4 q5; obtain ⟨i6, bl⟩ := h6.rlen; rw [hl5.out] at i6; have h5 := Lib.hid h6; clear h6))
            all_goals
              go_wp2_with fail
              go_meet
              exact ⟨rfl, _, _, h5.out, by have := ht5.out; have := hto.out; omega, hl5.out⟩
          case rest =>
            obtain ⟨rfl, SL', told', h5, ht5, hl5⟩ := hcut
            clear l0 lb hcl hQ e0 e1 e2 e3 e4 e5 hA hto hSL hwf hxs hsl hgn hbw
            replace h5 := Lib.hid h5
            replace ht5 := Lib.hid ht5
            replace hl5 := Lib.hid hl5
            go_wp2_with fail
            go_loopg [13] 3 (fun gk iv wx => ∃ j : Nat, gk = 4 - j ∧ 1 ≤ j ∧ j ≤ 4 ∧ iv = .int .i64 j ∧ AW w wx xb (some (p, g, f)) (some (rb, ra, rc)) SL' SL' told' [])
            case atStart => exact ⟨1, rfl, by decide, by decide, rfl, h5.out⟩
            case round =>
              obtain ⟨j, rfl, hj1, hj4, rfl, h6⟩ := hrel
              clear h5
              by_cases hj : j < 4
              · have hcl := Lib.hid (h6.handles (k := j) ⟨hj1, by omega⟩)
                replace h6 := Lib.hid h6
                go_wp2_with fail
                refine hcl.out.mono ?_
                clear hcl
                rintro z w7 ⟨pa, pc, rfl, hr1, h7, hb7⟩
                have hcl := Lib.hid (hHd.out _ _ _ j ⟨hj1, by omega⟩ h7)
                replace hr1 := Lib.hid hr1
                clear h6 h7 hb7
                go_wp2_with fail
                refine hcl.out.mono ?_
                clear hcl
                rintro z w8 ⟨qa, qc, rfl, hr2, h8, hb8⟩
                have hQ9 : QA w w8 xb (some (p, g, f)) (some (rb, ra, rc)) SL' told' (.slice pa (handsR j SL').length pc) (.slice qa (handsR j SL').length qc) (handsR j SL') := ⟨h8, (hr1.out.base0).below hb8, hr2.base0⟩
                clear hr1 hr2 h8 hb8
                have hML : Hid ((handsR j SL').length ≤ 4096) := Lib.hid (Nat.le_trans (handsR_len _ _) (by have := hl5.out; omega))
                generalize handsR j SL' = M at *
                have hMl := hML.out
                replace hQ9 := Lib.hid hQ9
                go_wp2_with fail
                go_loopg [17] M.length (fun gk iv wx => ∃ i : Nat, gk = M.length - i ∧ i ≤ M.length ∧ iv = .int .i64 i ∧ QA w wx xb (some (p, g, f)) (some (rb, ra, rc)) SL' told' (.slice pa M.length pc) (.slice qa M.length qc) M)
                case atStart => exact ⟨0, rfl, Nat.zero_le _, rfl, hQ9.out⟩
                case round =>
                  obtain ⟨i, rfl, hi, rfl, hQ7⟩ := hrel
                  clear hQ9
                  by_cases hlt7 : i < M.length
                  · obtain ⟨z, hz⟩ : ∃ z, M[i]? = some z := ⟨_, List.getElem?_eq_getElem hlt7⟩
                    obtain ⟨pb, pc', pe, _, _, pl, _, _, _, pcell⟩ := hQ7.ar.at hz
                    obtain ⟨qb, qc', qe, _, _, ql, _, _, _, qcell⟩ := hQ7.br.at hz
                    have g0 := pcell 0 _ rfl
                    have g1 := pcell 1 _ rfl
                    have g2 := qcell 0 _ rfl
                    have g3 := qcell 1 _ rfl
                    injection pe with pe _ pe2
                    injection qe with qe _ qe2
                    subst pe qe pe2 qe2
                    rw [Nat.add_zero] at g0 g2
                    replace hQ7 := Lib.hid hQ7
                    replace hz := Lib.hid hz
                    clear pcell qcell
                    go_wp2_with fail
                    go_quiet (fail)
                    go_wp2_with fail
                    go_roundg (M.length - (i + 1))
                    case measure => omega
                    case rel => exact ⟨i + 1, rfl, by omega, by go_num, hQ7.out.below ⟨rfl, rfl, rfl, Nat.le_refl _, fun _ _ => rfl⟩⟩
                  · obtain rfl : i = M.length := by omega
                    replace hQ7 := Lib.hid hQ7
                    go_wp2_with fail
                    go_roundg (4 - (j + 1))
                    case measure => omega
                    case rel => exact ⟨j + 1, rfl, by omega, by omega, by go_num, hQ7.out.aw⟩
              · obtain rfl : j = 4 := by omega
                replace h6 := Lib.hid h6
                go_wp2_with fail
                go_roundg (len - (k + 1))
                case measure => omega
                case rel => exact ⟨k + 1, SL', told', rfl, by omega, by go_num, h6.out, ht5.out, hl5.out⟩
        · obtain rfl : k = len := by omega
          have hB := Lib.hid hA.bel
          clear hA hSL hto hFr hRf hRo hLi hHd
          cases nn with
          | false =>
            go_wp2_with fail
            go_ret
            exact ⟨rfl, hB.out⟩
          | true =>
            as_aux_lemma =>
              go_wp2_with fail
              go_loopg [19] k (fun gk iv wx => ∃ i : Nat, gk = k - i ∧ i ≤ k ∧ iv = .int .i64 i ∧ Below w.heap.size w wx)
              case atStart => exact ⟨0, rfl, Nat.zero_le _, rfl, hB.out⟩
              case round =>
                obtain ⟨i, rfl, hi, rfl, hb⟩ := hrel
                clear hB
                by_cases hlt : i < k
                · obtain ⟨b, off, rfl, hbw, d, inn, x, sl, gn, ago, hact, hwf, hinn, hxs, hsl, hgn, hago⟩ := hro.out i hlt
                  obtain ⟨q0, q1, q2, q3, q4, q5⟩ := hact
                  have e2 := keep hb q2
                  have e3 := keep hb q3
                  have e4 := keep hb q4
                  replace hb := Lib.hid hb
                  clear hwf hxs hsl hgn hinn hago q0 q1 q5
                  go_wp2_with fail
                  refine (AStr.aAlloc_nil x wr).mono ?_
                  rintro z w7 ⟨rfl, hb7⟩
                  have h7 := hb.out.trans (hb7.mono hb.out.size)
                  clear e2 e3 e4 hb7
                  obtain ⟨w8, hw8⟩ : ∃ w8, w8 = w7.alloc (.cells #[.int .i64 0, .int .u64 0] 40) := ⟨_, rfl⟩
                  have h8 : Below w.heap.size w w8 := by rw [hw8]; exact h7.alloc h7.size _
                  have hx8 : w8.heap[w7.heap.size]? = some (.cells #[.int .i64 0, .int .u64 0] 40) := by rw [hw8]; exact heap_alloc_new _ _
                  have z7 := Lib.hid h7.size
                  clear hb h7
                  have e3 := keep h8 q3
                  have e4 := keep h8 q4
                  replace hw8 := Lib.hid hw8
                  replace h8 := Lib.hid h8
                  replace hx8 := Lib.hid hx8
                  go_upto_region 34 with fail
                  rw [← hw8.out]
                  clear hw8
                  go_wp2_with fail
                  refine (AStr.aGet_nil sl gn w8).mono ?_
                  rintro z w9 ⟨rfl, hb9⟩
                  have h9 := h8.out.trans (hb9.mono h8.out.size)
                  have e3' := keep h9 q3
                  have e4' := keep h9 q4
                  have v0 : w8.cell? ⟨w7.heap.size, 0, none⟩ = some (.int .i64 0) := by rw [cell_of_heap hx8.out]; rfl
                  have v1 : w8.cell? ⟨w7.heap.size, 1, none⟩ = some (.int .u64 0) := by rw [cell_of_heap hx8.out]; rfl
                  have u0 := keep hb9 v0
                  have u1 := keep hb9 v1
                  have ul := block_lt_of_cell u0
                  clear e3 e4 hb9 hx8 h8 v0 v1
                  replace h9 := Lib.hid h9
                  generalize w7.heap.size = xb7 at *
                  go_wp2_with fail
                  refine (AStr.aRelease_nil sl gn w9).mono ?_
                  rintro z w10 ⟨rfl, hb10⟩
                  have h10 := Lib.hid (h9.out.trans (hb10.mono h9.out.size))
                  clear h9 hb10 u0 u1 ul e3' e4' z7
                  go_wp2_with fail
                  go_roundg (k - (i + 1))
                  case measure => omega
                  case rel => exact ⟨i + 1, rfl, by omega, by go_num, h10.out⟩
                · obtain rfl : i = k := by omega
                  replace hb := Lib.hid hb
                  go_wp2_with fail
                  refine (AStr.aLive_nil wr).mono ?_
                  rintro z w9 ⟨rfl, hb9⟩
                  have h9 := Lib.hid (hb.out.trans (hb9.mono hb.out.size))
                  clear hb hb9
                  go_wp2_with fail
                  refine (handles_nil w9).mono ?_
                  rintro z w10 ⟨rfl, hb10⟩
                  have h10 := Lib.hid (h9.out.trans (hb10.mono h9.out.size))
                  clear h9 hb10
                  go_wp2_with fail
                  go_ret
                  exact ⟨rfl, h10.out⟩
  · have hbad : n < 1 ∨ 4096 < n := by omega
    clear hn
    as_aux_lemma =>
      go_wp2_with fail
      refine (arNewPool_bad n w2 hbad).mono ?_
      rintro e w3 ⟨rfl, hb3⟩
      have HB3 := Lib.hid (HB2.out.trans (hb3.mono HB2.out.size))
      clear hb3
      go_wp2_with fail
      refine (r2NewPool_bad n w3 hbad).mono ?_
      rintro e w4 ⟨rfl, rfl⟩
      obtain ⟨ho, ha, hrf⟩ := start_none HB3.out
      replace ho := Lib.hid ho
      replace ha := Lib.hid ha
      replace hrf := Lib.hid hrf
      go_wp2_with fail
      refine (AStr.gNew none [] w3).mono ?_
      rintro e w5 ⟨rfl, hb5, hs5, hA5⟩
      replace hb5 := Lib.hid hb5
      replace hs5 := Lib.hid hs5
      replace hA5 := Lib.hid hA5
      go_wp2_with fail
      refine (AThing.gNew none [] w5).mono ?_
      rintro e w6 ⟨rfl, hb6, hs6, hA6⟩
      replace hb6 := Lib.hid hb6
      replace hs6 := Lib.hid hs6
      replace hA6 := Lib.hid hA6
      go_wp2_with fail
      refine (AStr.gNew none [] w6).mono ?_
      rintro e w7 ⟨rfl, hb7, hs7, hA7⟩
      have hst := AX.start (P := none) (wp := none) (SL := []) ho.out ha.out (by intro s hs; simp at hs) (by simp) hrf.out (by intro q hq; simp at hq) hb5.out hs5.out hA5.out hb6.out hs6.out hA6.out hb7 hs7 hA7
      replace hst := Lib.hid hst
      clear ho ha hrf hb5 hs5 hA5 hb6 hs6 hA6 hb7 hs7 hA7
      go_wp2_with fail
      obtain ⟨w8, hw8⟩ : ∃ w8, w8 = w7.alloc (.cells #[.pointer (paddr none), .pointer (some ⟨w3.heap.size + 1, 0, none⟩), .pointer (some ⟨w6.heap.size + 1, 0, none⟩), .pointer (some ⟨w5.heap.size + 1, 0, none⟩), rptr (wpo none), .slice none 0 0] 73) := ⟨_, rfl⟩
      rw [← hw8] at hst
      rw [show w7.alloc (.cells #[.pointer none, .pointer (some ⟨w3.heap.size + 1, 0, none⟩), .pointer (some ⟨w6.heap.size + 1, 0, none⟩), .pointer (some ⟨w5.heap.size + 1, 0, none⟩), .pointer none, .slice none 0 0] 73) = w8 from hw8.symm]
      clear hw8
      generalize w7.heap.size = xb at *
      have hFr : Hid (∀ W SLa tl, AW w W xb none none SLa SLa tl [] → Calls Try.prog 16 #[.pointer none] W fun e w' => e = .returned (.int .i64 ((freeOf SLa).count true : Nat)) ∧ W = w') := Lib.hid (fun W SLa tl ha => ha.pFree)
      have hRf : Hid (∀ W SLa tl, AW w W xb none none SLa SLa tl [] → Calls Try.prog 29 #[.pointer none] W fun e w' => e = .returned (.int .i64 ((freeOf SLa).count true : Nat)) ∧ W = w') := Lib.hid (fun W SLa tl ha => ha.rFree)
      have hRo : Hid (∀ W SLa tl (z : Int), AW w W xb none none SLa SLa tl [] → Calls Try.prog 21 #[.pointer none, .int .i64 z] W fun e w' => e = .returned (.bool false) ∧ AW w w' xb none none SLa SLa tl []) := Lib.hid (fun W SLa tl z ha => ha.pRoomNil z)
      have hHd : Hid (∀ W SLa tl (j : Nat), 1 ≤ j ∧ j ≤ 3 → AW w W xb none none SLa SLa tl [] → Calls Try.prog 31 #[.pointer none, .int .i64 j] W fun e w' => ∃ a c, e = .returned (.slice a (handsR j SLa).length c) ∧ Row W.heap.size 40 2 hcell w' (.slice a (handsR j SLa).length c) (handsR j SLa) ∧ AW w w' xb none none SLa SLa tl [] ∧ Below W.heap.size W w') := Lib.hid (fun W SLa tl j _ ha => ha.rHandles)
      go_loopg [12] len (fun gk iv wr => ∃ (k : Nat) (SL : List Sl) (told : List (Int × Int)), gk = len - k ∧ k ≤ len ∧ iv = .int .i64 k ∧ AW w wr xb none none SL SL told [] ∧ told.length ≤ k ∧ SL.length = 0)
      case atStart => exact ⟨0, _, [], rfl, Nat.zero_le _, rfl, hst.out, Nat.le_refl _, rfl⟩
      case round =>
        obtain ⟨k, SL, told, rfl, hk, rfl, hA, hto, hSL⟩ := hrel
        clear hst
        by_cases hlt : k < len
        · obtain ⟨b, off, rfl, hbw, d, inn, x, sl, gn, ago, hact, hwf, hinn, hxs, hsl, hgn, hago⟩ := hro.out k hlt
          obtain ⟨inn, rfl⟩ := Int.eq_ofNat_of_zero_le hinn.1
          obtain ⟨ago, rfl⟩ := Int.eq_ofNat_of_zero_le hago.1
          obtain ⟨q0, q1, q2, q3, q4, q5⟩ := hact
          have e0 := keep hA.bel q0
          have e1 := keep hA.bel q1
          have e2 := keep hA.bel q2
          have e3 := keep hA.bel q3
          have e4 := keep hA.bel q4
          have e5 := keep hA.bel q5
          have hcl := Lib.hid (does_any (hA.below (Below.refl wr.heap.size wr).drew) d inn (by omega) x sl gn ago (by omega) (by omega))
          replace hSL := Lib.hid hSL
          replace hto := Lib.hid hto
          replace hA := Lib.hid hA
          replace hwf := Lib.hid hwf
          replace hxs := Lib.hid hxs
          replace hsl := Lib.hid hsl
          replace hgn := Lib.hid hgn
          have hQ := Lib.hid (And.intro q0 (And.intro q1 (And.intro q2 (And.intro q3 (And.intro q4 q5)))))
          clear q0 q1 q2 q3 q4 q5
          go_upto_region 13 with fail
          go_cut [118] (fun v wx => v = .bool false ∧ ∃ SL' told', AW w wx xb none none SL' SL' told' [] ∧ told'.length ≤ k + 1 ∧ SL'.length = 0)
          case first =>
            refine wp_region_held_drew (S := (fun w' => w'.cell? ⟨b, off + k * 6, none⟩ = some (.int .i64 d) ∧ w'.cell? ⟨b, off + k * 6 + 1, none⟩ = some (.int .u8 inn) ∧ w'.cell? ⟨b, off + k * 6 + 2, none⟩ = some (.string x) ∧ w'.cell? ⟨b, off + k * 6 + 3, none⟩ = some (.int .i64 sl) ∧ w'.cell? ⟨b, off + k * 6 + 4, none⟩ = some (.int .u64 gn) ∧ w'.cell? ⟨b, off + k * 6 + 5, none⟩ = some (.int .u8 ago))) (by kernel_rfl) ?_ (fun hHeld => ?_)
            · (try dsimp only); (first | exact ⟨i0, i1, i2, i3, i4, i5⟩ | go_keep)
            refine takeL 0 (by simp only [List.getElem?_toArray, List.getElem?_cons_zero]; rfl) hHeld ?_
            refine ⟨by kernel_rfl, by kernel_rfl, by kernel_rfl, ?_, fun _ _ _ h => h, Or.inl ⟨by rfl, ?_⟩, ?_⟩
            rotate_left 1
            · intro w hSw; (try dsimp only at hSw); go_simp; first | done | with_reducible rfl
            try simp only [Act.put, List.setIfInBounds_toArray, List.set_cons_zero, List.set_cons_succ]
            refine takeL 1 (by simp only [List.getElem?_toArray, List.getElem?_cons_succ, List.getElem?_cons_zero]; rfl) hHeld ?_
            refine ⟨by kernel_rfl, by kernel_rfl, by kernel_rfl, ?_, fun _ _ _ h => h, Or.inl ⟨by rfl, ?_⟩, ?_⟩
            rotate_left 1
            · intro w hSw; (try dsimp only at hSw); go_simp; first | done | with_reducible rfl
            try simp only [Act.put, List.setIfInBounds_toArray, List.set_cons_zero, List.set_cons_succ]
            refine takeL 2 (by simp only [List.getElem?_toArray, List.getElem?_cons_succ, List.getElem?_cons_zero]; rfl) hHeld ?_
            refine ⟨by kernel_rfl, by kernel_rfl, by kernel_rfl, ?_, fun _ _ _ h => h, Or.inl ⟨by rfl, ?_⟩, ?_⟩
            rotate_left 1
            · intro w hSw; (try dsimp only at hSw); go_simp; first | done | with_reducible rfl
            try simp only [Act.put, List.setIfInBounds_toArray, List.set_cons_zero, List.set_cons_succ]
            refine takeL 3 (by simp only [List.getElem?_toArray, List.getElem?_cons_succ, List.getElem?_cons_zero]; rfl) hHeld ?_
            refine ⟨by kernel_rfl, by kernel_rfl, by kernel_rfl, ?_, fun _ _ _ h => h, Or.inl ⟨by rfl, ?_⟩, ?_⟩
            rotate_left 1
            · intro w hSw; (try dsimp only at hSw); go_simp; first | done | with_reducible rfl
            try simp only [Act.put, List.setIfInBounds_toArray, List.set_cons_zero, List.set_cons_succ]
            refine takeL 4 (by simp only [List.getElem?_toArray, List.getElem?_cons_succ, List.getElem?_cons_zero]; rfl) hHeld ?_
            refine ⟨by kernel_rfl, by kernel_rfl, by kernel_rfl, ?_, fun _ _ _ h => h, Or.inl ⟨by rfl, ?_⟩, ?_⟩
            rotate_left 1
            · intro w hSw; (try dsimp only at hSw); go_simp; first | done | with_reducible rfl
            try simp only [Act.put, List.setIfInBounds_toArray, List.set_cons_zero, List.set_cons_succ]
            refine readyL 5 (by kernel_rfl) (by simp only [List.getElem?_toArray, List.getElem?_cons_succ, List.getElem?_cons_zero]; rfl) ?_
            intro K hK
            go_simp
            go_at_call 28; refine hcl.out.mono ?_; rintro z w5 ⟨rfl, SL', told', h5, hl5, ht5⟩; replace hl5 := Lib.hid (hl5.trans hSL.out); obtain ⟨q0, q1, q2, q3, q4, q5⟩ := hQ.out; have i0 := keep (AW.bel h5) q0; have i1 := keep (AW.bel h5) q1; have i2 := keep (AW.bel h5) q2; have i3 := keep (AW.bel h5) q3; have i4 := keep (AW.bel h5) q4; have i5 := keep (AW.bel h5) q5; clear q0 q1 q2 q3 q4 q5; skip; replace h5 := Lib.hid h5; replace ht5 := Lib.hid ht5
            go_wp2_with fail
            refine hK.out _ _ ?_ (fun hHeld' => ?_)
            · (try dsimp only); (first | exact ⟨i0, i1, i2, i3, i4, i5⟩ | go_keep)
            clear hHeld hK K
            have hHeld := hHeld'
            clear hHeld'
            try simp only [Act.put, List.setIfInBounds_toArray, List.set_cons_zero, List.set_cons_succ]
            refine takeL 6 (by simp only [List.getElem?_toArray, List.getElem?_cons_succ, List.getElem?_cons_zero]; rfl) hHeld ?_
            refine ⟨by kernel_rfl, by kernel_rfl, by kernel_rfl, ?_, fun _ _ _ h => h, Or.inl ⟨by rfl, ?_⟩, ?_⟩
            rotate_left 1
            · intro w hSw; (try dsimp only at hSw); go_simp; first | done | with_reducible rfl
            try simp only [Act.put, List.setIfInBounds_toArray, List.set_cons_zero, List.set_cons_succ]
            refine takeL 7 (by simp only [List.getElem?_toArray, List.getElem?_cons_succ, List.getElem?_cons_zero]; rfl) hHeld ?_
            refine ⟨by kernel_rfl, by kernel_rfl, by kernel_rfl, ?_, fun _ _ _ h => h, Or.inl ⟨by rfl, ?_⟩, ?_⟩
            rotate_left 1
            · intro w hSw; (try dsimp only at hSw); go_simp; first | done | with_reducible rfl
            try simp only [Act.put, List.setIfInBounds_toArray, List.set_cons_zero, List.set_cons_succ]
            refine takeL 8 (by simp only [List.getElem?_toArray, List.getElem?_cons_succ, List.getElem?_cons_zero]; rfl) hHeld ?_
            refine ⟨by kernel_rfl, by kernel_rfl, by kernel_rfl, ?_, fun _ _ _ h => h, Or.inl ⟨by rfl, ?_⟩, ?_⟩
            rotate_left 1
            · intro w hSw; (try dsimp only at hSw); go_simp; first | done | with_reducible rfl
            try simp only [Act.put, List.setIfInBounds_toArray, List.set_cons_zero, List.set_cons_succ]
            refine takeL 10 (by simp only [List.getElem?_toArray, List.getElem?_cons_succ, List.getElem?_cons_zero]; rfl) hHeld ?_
            refine ⟨by kernel_rfl, by kernel_rfl, by kernel_rfl, ?_, fun _ _ _ h => h, Or.inl ⟨by rfl, ?_⟩, ?_⟩
            rotate_left 1
            · intro w hSw; (try dsimp only at hSw); go_simp; first | done | with_reducible rfl
            try simp only [Act.put, List.setIfInBounds_toArray, List.set_cons_zero, List.set_cons_succ]
            refine readyL 9 (by kernel_rfl) (by simp only [List.getElem?_toArray, List.getElem?_cons_succ, List.getElem?_cons_zero]; rfl) ?_
            intro K hK
            go_simp
            go_at_call 16; refine (hFr.out _ _ _ h5.out).mono ?_; rintro z w6 ⟨rfl, rfl⟩
            go_wp2_with fail
            refine hK.out _ _ ?_ (fun hHeld' => ?_)
            · (try dsimp only); (first | exact ⟨i0, i1, i2, i3, i4, i5⟩ | go_keep)
            clear hHeld hK K
            have hHeld := hHeld'
            clear hHeld'
            try simp only [Act.put, List.setIfInBounds_toArray, List.set_cons_zero, List.set_cons_succ]
            refine readyL 11 (by kernel_rfl) (by simp only [List.getElem?_toArray, List.getElem?_cons_succ, List.getElem?_cons_zero]; rfl) ?_
            intro K hK
            go_simp
            go_at_call 29; refine (hRf.out _ _ _ h5.out).mono ?_; rintro z w6 ⟨rfl, rfl⟩
            go_wp2_with fail
            refine hK.out _ _ ?_ (fun hHeld' => ?_)
            · (try dsimp only); (first | exact ⟨i0, i1, i2, i3, i4, i5⟩ | go_keep)
            clear hHeld hK K
            have hHeld := hHeld'
            clear hHeld'
            try simp only [Act.put, List.setIfInBounds_toArray, List.set_cons_zero, List.set_cons_succ]
            refine takeL 12 (by simp only [List.getElem?_toArray, List.getElem?_cons_succ, List.getElem?_cons_zero]; rfl) hHeld ?_
            refine ⟨by kernel_rfl, by kernel_rfl, by kernel_rfl, ?_, fun _ _ _ h => h, Or.inl ⟨by rfl, ?_⟩, ?_⟩
            rotate_left 1
            · intro w hSw; (try dsimp only at hSw); go_simp; first | done | with_reducible rfl
            try simp only [Act.put, List.setIfInBounds_toArray, List.set_cons_zero, List.set_cons_succ]
            refine takeL 13 (by simp only [List.getElem?_toArray, List.getElem?_cons_succ, List.getElem?_cons_zero]; rfl) hHeld ?_
            refine ⟨by kernel_rfl, by kernel_rfl, by kernel_rfl, ?_, fun _ _ _ h => h, Or.inl ⟨by rfl, ?_⟩, ?_⟩
            rotate_left 1
            · intro w hSw; (try dsimp only at hSw); go_simp; first | done | with_reducible rfl
            try simp only [Act.put, List.setIfInBounds_toArray, List.set_cons_zero, List.set_cons_succ]
            refine takeL 14 (by simp only [List.getElem?_toArray, List.getElem?_cons_succ, List.getElem?_cons_zero]; rfl) hHeld ?_
            refine ⟨by kernel_rfl, by kernel_rfl, by kernel_rfl, ?_, fun _ _ _ h => h, Or.inl ⟨by rfl, ?_⟩, ?_⟩
            rotate_left 1
            · intro w hSw; (try dsimp only at hSw); go_simp; first | done | with_reducible rfl
            try simp only [Act.put, List.setIfInBounds_toArray, List.set_cons_zero, List.set_cons_succ]
            refine takeL 15 (by simp only [List.getElem?_toArray, List.getElem?_cons_succ, List.getElem?_cons_zero]; rfl) hHeld ?_
            refine ⟨by kernel_rfl, by kernel_rfl, by kernel_rfl, ?_, fun _ _ _ h => h, Or.inl ⟨by rfl, ?_⟩, ?_⟩
            rotate_left 1
            · intro w hSw; (try dsimp only at hSw); go_simp; first | done | with_reducible rfl
            try simp only [Act.put, List.setIfInBounds_toArray, List.set_cons_zero, List.set_cons_succ]
            refine takeL 16 (by simp only [List.getElem?_toArray, List.getElem?_cons_succ, List.getElem?_cons_zero]; rfl) hHeld ?_
            refine ⟨by kernel_rfl, by kernel_rfl, by kernel_rfl, ?_, fun _ _ _ h => h, Or.inl ⟨by rfl, ?_⟩, ?_⟩
            rotate_left 1
            · intro w hSw; (try dsimp only at hSw); go_simp; first | done | with_reducible rfl
            try simp only [Act.put, List.setIfInBounds_toArray, List.set_cons_zero, List.set_cons_succ]
            refine takeL 17 (by simp only [List.getElem?_toArray, List.getElem?_cons_succ, List.getElem?_cons_zero]; rfl) hHeld ?_
            refine ⟨by kernel_rfl, by kernel_rfl, by kernel_rfl, ?_, fun _ _ _ h => h, Or.inl ⟨by rfl, ?_⟩, ?_⟩
            rotate_left 1
            · intro w hSw; (try dsimp only at hSw); go_simp; first | done | with_reducible rfl
            try simp only [Act.put, List.setIfInBounds_toArray, List.set_cons_zero, List.set_cons_succ]
            refine takeL 18 (by simp only [List.getElem?_toArray, List.getElem?_cons_succ, List.getElem?_cons_zero]; rfl) hHeld ?_
            refine ⟨by kernel_rfl, by kernel_rfl, by kernel_rfl, undef, fun _ _ _ h => h, Or.inr ⟨by kernel_rfl, rfl⟩, ?_⟩
            try simp only [Act.put, List.setIfInBounds_toArray, List.set_cons_zero, List.set_cons_succ]
            refine takeL 19 (by simp only [List.getElem?_toArray, List.getElem?_cons_succ, List.getElem?_cons_zero]; rfl) hHeld ?_
            refine ⟨by kernel_rfl, by kernel_rfl, by kernel_rfl, undef, fun _ _ _ h => h, Or.inr ⟨by kernel_rfl, rfl⟩, ?_⟩
            try simp only [Act.put, List.setIfInBounds_toArray, List.set_cons_zero, List.set_cons_succ]
            refine takeL 20 (by simp only [List.getElem?_toArray, List.getElem?_cons_succ, List.getElem?_cons_zero]; rfl) hHeld ?_
            refine ⟨by kernel_rfl, by kernel_rfl, by kernel_rfl, undef, fun _ _ _ h => h, Or.inr ⟨by kernel_rfl, rfl⟩, ?_⟩
            try simp only [Act.put, List.setIfInBounds_toArray, List.set_cons_zero, List.set_cons_succ]
            refine takeL 21 (by simp only [List.getElem?_toArray, List.getElem?_cons_succ, List.getElem?_cons_zero]; rfl) hHeld ?_
            refine ⟨by kernel_rfl, by kernel_rfl, by kernel_rfl, undef, fun _ _ _ h => h, Or.inr ⟨by kernel_rfl, rfl⟩, ?_⟩
            try simp only [Act.put, List.setIfInBounds_toArray, List.set_cons_zero, List.set_cons_succ]
            refine takeL 22 (by simp only [List.getElem?_toArray, List.getElem?_cons_succ, List.getElem?_cons_zero]; rfl) hHeld ?_
            refine ⟨by kernel_rfl, by kernel_rfl, by kernel_rfl, undef, fun _ _ _ h => h, Or.inr ⟨by kernel_rfl, rfl⟩, ?_⟩
            try simp only [Act.put, List.setIfInBounds_toArray, List.set_cons_zero, List.set_cons_succ]
            refine takeL 23 (by simp only [List.getElem?_toArray, List.getElem?_cons_succ, List.getElem?_cons_zero]; rfl) hHeld ?_
            refine ⟨by kernel_rfl, by kernel_rfl, by kernel_rfl, undef, fun _ _ _ h => h, Or.inr ⟨by kernel_rfl, rfl⟩, ?_⟩
            try simp only [Act.put, List.setIfInBounds_toArray, List.set_cons_zero, List.set_cons_succ]
            refine takeL 24 (by simp only [List.getElem?_toArray, List.getElem?_cons_succ, List.getElem?_cons_zero]; rfl) hHeld ?_
            refine ⟨by kernel_rfl, by kernel_rfl, by kernel_rfl, undef, fun _ _ _ h => h, Or.inr ⟨by kernel_rfl, rfl⟩, ?_⟩
            try simp only [Act.put, List.setIfInBounds_toArray, List.set_cons_zero, List.set_cons_succ]
            refine takeL 25 (by simp only [List.getElem?_toArray, List.getElem?_cons_succ, List.getElem?_cons_zero]; rfl) hHeld ?_
            refine ⟨by kernel_rfl, by kernel_rfl, by kernel_rfl, undef, fun _ _ _ h => h, Or.inr ⟨by kernel_rfl, rfl⟩, ?_⟩
            try simp only [Act.put, List.setIfInBounds_toArray, List.set_cons_zero, List.set_cons_succ]
            refine takeL 26 (by simp only [List.getElem?_toArray, List.getElem?_cons_succ, List.getElem?_cons_zero]; rfl) hHeld ?_
            refine ⟨by kernel_rfl, by kernel_rfl, by kernel_rfl, undef, fun _ _ _ h => h, Or.inr ⟨by kernel_rfl, rfl⟩, ?_⟩
            try simp only [Act.put, List.setIfInBounds_toArray, List.set_cons_zero, List.set_cons_succ]
            refine takeL 27 (by simp only [List.getElem?_toArray, List.getElem?_cons_succ, List.getElem?_cons_zero]; rfl) hHeld ?_
            refine ⟨by kernel_rfl, by kernel_rfl, by kernel_rfl, undef, fun _ _ _ h => h, Or.inr ⟨by kernel_rfl, rfl⟩, ?_⟩
            try simp only [Act.put, List.setIfInBounds_toArray, List.set_cons_zero, List.set_cons_succ]
            refine takeL 28 (by simp only [List.getElem?_toArray, List.getElem?_cons_succ, List.getElem?_cons_zero]; rfl) hHeld ?_
            refine ⟨by kernel_rfl, by kernel_rfl, by kernel_rfl, undef, fun _ _ _ h => h, Or.inr ⟨by kernel_rfl, rfl⟩, ?_⟩
            try simp only [Act.put, List.setIfInBounds_toArray, List.set_cons_zero, List.set_cons_succ]
            refine takeL 29 (by simp only [List.getElem?_toArray, List.getElem?_cons_succ, List.getElem?_cons_zero]; rfl) hHeld ?_
            refine ⟨by kernel_rfl, by kernel_rfl, by kernel_rfl, ?_, fun _ _ _ h => h, Or.inl ⟨by rfl, ?_⟩, ?_⟩
            rotate_left 1
            · intro w hSw; (try dsimp only at hSw); go_simp; first | done | with_reducible rfl
            try simp only [Act.put, List.setIfInBounds_toArray, List.set_cons_zero, List.set_cons_succ]
            refine takeL 30 (by simp only [List.getElem?_toArray, List.getElem?_cons_succ, List.getElem?_cons_zero]; rfl) hHeld ?_
            refine ⟨by kernel_rfl, by kernel_rfl, by kernel_rfl, ?_, fun _ _ _ h => h, Or.inl ⟨by rfl, ?_⟩, ?_⟩
            rotate_left 1
            · intro w hSw; (try dsimp only at hSw); go_simp; first | done | with_reducible rfl
            try simp only [Act.put, List.setIfInBounds_toArray, List.set_cons_zero, List.set_cons_succ]
            refine takeL 31 (by simp only [List.getElem?_toArray, List.getElem?_cons_succ, List.getElem?_cons_zero]; rfl) hHeld ?_
            refine ⟨by kernel_rfl, by kernel_rfl, by kernel_rfl, ?_, fun _ _ _ h => h, Or.inl ⟨by rfl, ?_⟩, ?_⟩
            rotate_left 1
            · intro w hSw; (try dsimp only at hSw); go_simp; first | done | with_reducible rfl
            try simp only [Act.put, List.setIfInBounds_toArray, List.set_cons_zero, List.set_cons_succ]
            refine takeL 32 (by simp only [List.getElem?_toArray, List.getElem?_cons_succ, List.getElem?_cons_zero]; rfl) hHeld ?_
            refine ⟨by kernel_rfl, by kernel_rfl, by kernel_rfl, ?_, fun _ _ _ h => h, Or.inl ⟨by rfl, ?_⟩, ?_⟩
            rotate_left 1
            · intro w hSw; (try dsimp only at hSw); go_simp; first | done | with_reducible rfl
            try simp only [Act.put, List.setIfInBounds_toArray, List.set_cons_zero, List.set_cons_succ]
            refine takeL 33 (by simp only [List.getElem?_toArray, List.getElem?_cons_succ, List.getElem?_cons_zero]; rfl) hHeld ?_
            refine ⟨by kernel_rfl, by kernel_rfl, by kernel_rfl, ?_, fun _ _ _ h => h, Or.inl ⟨by rfl, ?_⟩, ?_⟩
            rotate_left 1
            · intro w hSw; (try dsimp only at hSw); go_simp; first | done | with_reducible rfl
            try simp only [Act.put, List.setIfInBounds_toArray, List.set_cons_zero, List.set_cons_succ]
            refine takeL 34 (by simp only [List.getElem?_toArray, List.getElem?_cons_succ, List.getElem?_cons_zero]; rfl) hHeld ?_
            refine ⟨by kernel_rfl, by kernel_rfl, by kernel_rfl, ?_, fun _ _ _ h => h, Or.inl ⟨by rfl, ?_⟩, ?_⟩
            rotate_left 1
            · intro w hSw; (try dsimp only at hSw); go_simp; first | done | with_reducible rfl
            try simp only [Act.put, List.setIfInBounds_toArray, List.set_cons_zero, List.set_cons_succ]
            refine takeL 35 (by simp only [List.getElem?_toArray, List.getElem?_cons_succ, List.getElem?_cons_zero]; rfl) hHeld ?_
            refine ⟨by kernel_rfl, by kernel_rfl, by kernel_rfl, ?_, fun _ _ _ h => h, Or.inl ⟨by rfl, ?_⟩, ?_⟩
            rotate_left 1
            · intro w hSw; (try dsimp only at hSw); go_simp; first | done | with_reducible rfl
            try simp only [Act.put, List.setIfInBounds_toArray, List.set_cons_zero, List.set_cons_succ]
            refine takeL 36 (by simp only [List.getElem?_toArray, List.getElem?_cons_succ, List.getElem?_cons_zero]; rfl) hHeld ?_
            refine ⟨by kernel_rfl, by kernel_rfl, by kernel_rfl, ?_, fun _ _ _ h => h, Or.inl ⟨by rfl, ?_⟩, ?_⟩
            rotate_left 1
            · intro w hSw; (try dsimp only at hSw); go_simp; first | done | with_reducible rfl
            try simp only [Act.put, List.setIfInBounds_toArray, List.set_cons_zero, List.set_cons_succ]
            refine takeL 37 (by simp only [List.getElem?_toArray, List.getElem?_cons_succ, List.getElem?_cons_zero]; rfl) hHeld ?_
            refine ⟨by kernel_rfl, by kernel_rfl, by kernel_rfl, ?_, fun _ _ _ h => h, Or.inl ⟨by rfl, ?_⟩, ?_⟩
            rotate_left 1
            · intro w hSw; (try dsimp only at hSw); go_simp; first | done | with_reducible rfl
            try simp only [Act.put, List.setIfInBounds_toArray, List.set_cons_zero, List.set_cons_succ]
            refine takeL 38 (by simp only [List.getElem?_toArray, List.getElem?_cons_succ, List.getElem?_cons_zero]; rfl) hHeld ?_
            refine ⟨by kernel_rfl, by kernel_rfl, by kernel_rfl, ?_, fun _ _ _ h => h, Or.inl ⟨by rfl, ?_⟩, ?_⟩
            rotate_left 1
            · intro w hSw; (try dsimp only at hSw); go_simp; first | done | with_reducible rfl
            try simp only [Act.put, List.setIfInBounds_toArray, List.set_cons_zero, List.set_cons_succ]
            refine takeL 40 (by simp only [List.getElem?_toArray, List.getElem?_cons_succ, List.getElem?_cons_zero]; rfl) hHeld ?_
            refine ⟨by kernel_rfl, by kernel_rfl, by kernel_rfl, ?_, fun _ _ _ h => h, Or.inl ⟨by rfl, ?_⟩, ?_⟩
            rotate_left 1
            · intro w hSw; (try dsimp only at hSw); go_simp; first | done | with_reducible rfl
            try simp only [Act.put, List.setIfInBounds_toArray, List.set_cons_zero, List.set_cons_succ]
            refine takeL 41 (by simp only [List.getElem?_toArray, List.getElem?_cons_succ, List.getElem?_cons_zero]; rfl) hHeld ?_
            refine ⟨by kernel_rfl, by kernel_rfl, by kernel_rfl, ?_, fun _ _ _ h => h, Or.inl ⟨by rfl, ?_⟩, ?_⟩
            rotate_left 1
            · intro w hSw; (try dsimp only at hSw); go_simp; first | done | with_reducible rfl
            try simp only [Act.put, List.setIfInBounds_toArray, List.set_cons_zero, List.set_cons_succ]
            refine readyL 39 (by kernel_rfl) (by simp only [List.getElem?_toArray, List.getElem?_cons_succ, List.getElem?_cons_zero]; rfl) ?_
            intro K hK
            go_simp
            go_at_call 21; refine (hRo.out _ _ _ _ h5.out).mono ?_; rintro z w6 ⟨rfl, h6⟩; obtain ⟨q0, q1, q2, q3, q4, q5⟩ := hQ.out; have i0 := keep (AW.bel h6) q0; have i1 := keep (AW.bel h6) q1; have i2 := keep (AW.bel h6) q2; have i3 := keep (AW.bel h6) q3; have i4 := keep (AW.bel h6) q4; have i5 := keep (AW.bel h6) q5; clear q0 q1 q2 q3 q4 q5; have h5 := Lib.hid h6; clear h6
            go_wp2_with fail
            refine hK.out _ _ ?_ (fun hHeld' => ?_)
            · (try dsimp only); (first | exact ⟨i0, i1, i2, i3, i4, i5⟩ | go_keep)
            clear hHeld hK K
            have hHeld := hHeld'
            clear hHeld'
            try simp only [Act.put, List.setIfInBounds_toArray, List.set_cons_zero, List.set_cons_succ]
            refine takeL 42 (by simp only [List.getElem?_toArray, List.getElem?_cons_succ, List.getElem?_cons_zero]; rfl) hHeld ?_
            refine ⟨by kernel_rfl, by kernel_rfl, by kernel_rfl, ?_, fun _ _ _ h => h, Or.inl ⟨by rfl, ?_⟩, ?_⟩
            rotate_left 1
            · intro w hSw; (try dsimp only at hSw); go_simp; first | done | with_reducible rfl
            try simp only [Act.put, List.setIfInBounds_toArray, List.set_cons_zero, List.set_cons_succ]
            refine takeL 43 (by simp only [List.getElem?_toArray, List.getElem?_cons_succ, List.getElem?_cons_zero]; rfl) hHeld ?_
            refine ⟨by kernel_rfl, by kernel_rfl, by kernel_rfl, undef, fun _ _ _ h => h, Or.inr ⟨by kernel_rfl, rfl⟩, ?_⟩
            try simp only [Act.put, List.setIfInBounds_toArray, List.set_cons_zero, List.set_cons_succ]
            refine takeL 44 (by simp only [List.getElem?_toArray, List.getElem?_cons_succ, List.getElem?_cons_zero]; rfl) hHeld ?_
            refine ⟨by kernel_rfl, by kernel_rfl, by kernel_rfl, undef, fun _ _ _ h => h, Or.inr ⟨by kernel_rfl, rfl⟩, ?_⟩
            try simp only [Act.put, List.setIfInBounds_toArray, List.set_cons_zero, List.set_cons_succ]
            refine takeL 45 (by simp only [List.getElem?_toArray, List.getElem?_cons_succ, List.getElem?_cons_zero]; rfl) hHeld ?_
            refine ⟨by kernel_rfl, by kernel_rfl, by kernel_rfl, undef, fun _ _ _ h => h, Or.inr ⟨by kernel_rfl, rfl⟩, ?_⟩
            try simp only [Act.put, List.setIfInBounds_toArray, List.set_cons_zero, List.set_cons_succ]
            refine takeL 46 (by simp only [List.getElem?_toArray, List.getElem?_cons_succ, List.getElem?_cons_zero]; rfl) hHeld ?_
            refine ⟨by kernel_rfl, by kernel_rfl, by kernel_rfl, undef, fun _ _ _ h => h, Or.inr ⟨by kernel_rfl, rfl⟩, ?_⟩
            try simp only [Act.put, List.setIfInBounds_toArray, List.set_cons_zero, List.set_cons_succ]
            refine takeL 47 (by simp only [List.getElem?_toArray, List.getElem?_cons_succ, List.getElem?_cons_zero]; rfl) hHeld ?_
            refine ⟨by kernel_rfl, by kernel_rfl, by kernel_rfl, undef, fun _ _ _ h => h, Or.inr ⟨by kernel_rfl, rfl⟩, ?_⟩
            try simp only [Act.put, List.setIfInBounds_toArray, List.set_cons_zero, List.set_cons_succ]
            refine takeL 48 (by simp only [List.getElem?_toArray, List.getElem?_cons_succ, List.getElem?_cons_zero]; rfl) hHeld ?_
            refine ⟨by kernel_rfl, by kernel_rfl, by kernel_rfl, undef, fun _ _ _ h => h, Or.inr ⟨by kernel_rfl, rfl⟩, ?_⟩
            try simp only [Act.put, List.setIfInBounds_toArray, List.set_cons_zero, List.set_cons_succ]
            refine takeL 49 (by simp only [List.getElem?_toArray, List.getElem?_cons_succ, List.getElem?_cons_zero]; rfl) hHeld ?_
            refine ⟨by kernel_rfl, by kernel_rfl, by kernel_rfl, undef, fun _ _ _ h => h, Or.inr ⟨by kernel_rfl, rfl⟩, ?_⟩
            try simp only [Act.put, List.setIfInBounds_toArray, List.set_cons_zero, List.set_cons_succ]
            refine takeL 50 (by simp only [List.getElem?_toArray, List.getElem?_cons_succ, List.getElem?_cons_zero]; rfl) hHeld ?_
            refine ⟨by kernel_rfl, by kernel_rfl, by kernel_rfl, undef, fun _ _ _ h => h, Or.inr ⟨by kernel_rfl, rfl⟩, ?_⟩
            try simp only [Act.put, List.setIfInBounds_toArray, List.set_cons_zero, List.set_cons_succ]
            refine takeL 51 (by simp only [List.getElem?_toArray, List.getElem?_cons_succ, List.getElem?_cons_zero]; rfl) hHeld ?_
            refine ⟨by kernel_rfl, by kernel_rfl, by kernel_rfl, undef, fun _ _ _ h => h, Or.inr ⟨by kernel_rfl, rfl⟩, ?_⟩
            try simp only [Act.put, List.setIfInBounds_toArray, List.set_cons_zero, List.set_cons_succ]
            refine takeL 52 (by simp only [List.getElem?_toArray, List.getElem?_cons_succ, List.getElem?_cons_zero]; rfl) hHeld ?_
            refine ⟨by kernel_rfl, by kernel_rfl, by kernel_rfl, ?_, fun _ _ _ h => h, Or.inl ⟨by rfl, ?_⟩, ?_⟩
            rotate_left 1
            · intro w hSw; (try dsimp only at hSw); go_simp; first | done | with_reducible rfl
            try simp only [Act.put, List.setIfInBounds_toArray, List.set_cons_zero, List.set_cons_succ]
            refine takeL 53 (by simp only [List.getElem?_toArray, List.getElem?_cons_succ, List.getElem?_cons_zero]; rfl) hHeld ?_
            refine ⟨by kernel_rfl, by kernel_rfl, by kernel_rfl, ?_, fun _ _ _ h => h, Or.inl ⟨by rfl, ?_⟩, ?_⟩
            rotate_left 1
            · intro w hSw; (try dsimp only at hSw); go_simp; first | done | with_reducible rfl
            try simp only [Act.put, List.setIfInBounds_toArray, List.set_cons_zero, List.set_cons_succ]
            refine takeL 54 (by simp only [List.getElem?_toArray, List.getElem?_cons_succ, List.getElem?_cons_zero]; rfl) hHeld ?_
            refine ⟨by kernel_rfl, by kernel_rfl, by kernel_rfl, ?_, fun _ _ _ h => h, Or.inl ⟨by rfl, ?_⟩, ?_⟩
            rotate_left 1
            · intro w hSw; (try dsimp only at hSw); go_simp; first | done | with_reducible rfl
            try simp only [Act.put, List.setIfInBounds_toArray, List.set_cons_zero, List.set_cons_succ]
            refine wpAnyH_done (by kernel_rfl) ?_ _
            all_goals
              go_wp2_with fail
              go_meet
              exact ⟨rfl, _, _, h5.out, by have := ht5.out; have := hto.out; omega, hl5.out⟩
          case rest =>
            obtain ⟨rfl, SL', told', h5, ht5, hl5⟩ := hcut
            clear hcl hQ e0 e1 e2 e3 e4 e5 hA hto hSL hwf hxs hsl hgn hbw
            replace h5 := Lib.hid h5
            replace ht5 := Lib.hid ht5
            replace hl5 := Lib.hid hl5
            go_wp2_with fail
            go_loopg [13] 3 (fun gk iv wx => ∃ j : Nat, gk = 4 - j ∧ 1 ≤ j ∧ j ≤ 4 ∧ iv = .int .i64 j ∧ AW w wx xb none none SL' SL' told' [])
            case atStart => exact ⟨1, rfl, by decide, by decide, rfl, h5.out⟩
            case round =>
              obtain ⟨j, rfl, hj1, hj4, rfl, h6⟩ := hrel
              clear h5
              by_cases hj : j < 4
              · have hcl := Lib.hid (h6.handles (k := j) ⟨hj1, by omega⟩)
                replace h6 := Lib.hid h6
                go_wp2_with fail
                refine hcl.out.mono ?_
                clear hcl
                rintro z w7 ⟨pa, pc, rfl, hr1, h7, hb7⟩
                have hcl := Lib.hid (hHd.out _ _ _ j ⟨hj1, by omega⟩ h7)
                replace hr1 := Lib.hid hr1
                clear h6 h7 hb7
                go_wp2_with fail
                refine hcl.out.mono ?_
                clear hcl
                rintro z w8 ⟨qa, qc, rfl, hr2, h8, hb8⟩
                have hQ9 : QA w w8 xb none none SL' told' (.slice pa (handsR j SL').length pc) (.slice qa (handsR j SL').length qc) (handsR j SL') := ⟨h8, (hr1.out.base0).below hb8, hr2.base0⟩
                clear hr1 hr2 h8 hb8
                have hML : Hid ((handsR j SL').length ≤ 4096) := Lib.hid (Nat.le_trans (handsR_len _ _) (by have := hl5.out; omega))
                generalize handsR j SL' = M at *
                have hMl := hML.out
                replace hQ9 := Lib.hid hQ9
                go_wp2_with fail
                go_loopg [17] M.length (fun gk iv wx => ∃ i : Nat, gk = M.length - i ∧ i ≤ M.length ∧ iv = .int .i64 i ∧ QA w wx xb none none SL' told' (.slice pa M.length pc) (.slice qa M.length qc) M)
                case atStart => exact ⟨0, rfl, Nat.zero_le _, rfl, hQ9.out⟩
                case round =>
                  obtain ⟨i, rfl, hi, rfl, hQ7⟩ := hrel
                  clear hQ9
                  by_cases hlt7 : i < M.length
                  · obtain ⟨z, hz⟩ : ∃ z, M[i]? = some z := ⟨_, List.getElem?_eq_getElem hlt7⟩
                    obtain ⟨pb, pc', pe, _, _, pl, _, _, _, pcell⟩ := hQ7.ar.at hz
                    obtain ⟨qb, qc', qe, _, _, ql, _, _, _, qcell⟩ := hQ7.br.at hz
                    have g0 := pcell 0 _ rfl
                    have g1 := pcell 1 _ rfl
                    have g2 := qcell 0 _ rfl
                    have g3 := qcell 1 _ rfl
                    injection pe with pe _ pe2
                    injection qe with qe _ qe2
                    subst pe qe pe2 qe2
                    rw [Nat.add_zero] at g0 g2
                    replace hQ7 := Lib.hid hQ7
                    replace hz := Lib.hid hz
                    clear pcell qcell
                    go_wp2_with fail
                    go_quiet (fail)
                    go_wp2_with fail
                    go_roundg (M.length - (i + 1))
                    case measure => omega
                    case rel => exact ⟨i + 1, rfl, by omega, by go_num, hQ7.out.below ⟨rfl, rfl, rfl, Nat.le_refl _, fun _ _ => rfl⟩⟩
                  · obtain rfl : i = M.length := by omega
                    replace hQ7 := Lib.hid hQ7
                    go_wp2_with fail
                    go_roundg (4 - (j + 1))
                    case measure => omega
                    case rel => exact ⟨j + 1, rfl, by omega, by omega, by go_num, hQ7.out.aw⟩
              · obtain rfl : j = 4 := by omega
                replace h6 := Lib.hid h6
                go_wp2_with fail
                go_roundg (len - (k + 1))
                case measure => omega
                case rel => exact ⟨k + 1, SL', told', rfl, by omega, by go_num, h6.out, ht5.out, hl5.out⟩
        · obtain rfl : k = len := by omega
          have hB := Lib.hid hA.bel
          clear hA hSL hto hFr hRf hRo hHd
          cases nn with
          | false =>
            go_wp2_with fail
            go_ret
            exact ⟨rfl, hB.out⟩
          | true =>
            as_aux_lemma =>
              go_wp2_with fail
              go_loopg [19] k (fun gk iv wx => ∃ i : Nat, gk = k - i ∧ i ≤ k ∧ iv = .int .i64 i ∧ Below w.heap.size w wx)
              case atStart => exact ⟨0, rfl, Nat.zero_le _, rfl, hB.out⟩
              case round =>
                obtain ⟨i, rfl, hi, rfl, hb⟩ := hrel
                clear hB
                by_cases hlt : i < k
                · obtain ⟨b, off, rfl, hbw, d, inn, x, sl, gn, ago, hact, hwf, hinn, hxs, hsl, hgn, hago⟩ := hro.out i hlt
                  obtain ⟨q0, q1, q2, q3, q4, q5⟩ := hact
                  have e2 := keep hb q2
                  have e3 := keep hb q3
                  have e4 := keep hb q4
                  replace hb := Lib.hid hb
                  clear hwf hxs hsl hgn hinn hago q0 q1 q5
                  go_wp2_with fail
                  refine (AStr.aAlloc_nil x wr).mono ?_
                  rintro z w7 ⟨rfl, hb7⟩
                  have h7 := hb.out.trans (hb7.mono hb.out.size)
                  clear e2 e3 e4 hb7
                  obtain ⟨w8, hw8⟩ : ∃ w8, w8 = w7.alloc (.cells #[.int .i64 0, .int .u64 0] 40) := ⟨_, rfl⟩
                  have h8 : Below w.heap.size w w8 := by rw [hw8]; exact h7.alloc h7.size _
                  have hx8 : w8.heap[w7.heap.size]? = some (.cells #[.int .i64 0, .int .u64 0] 40) := by rw [hw8]; exact heap_alloc_new _ _
                  have z7 := Lib.hid h7.size
                  clear hb h7
                  have e3 := keep h8 q3
                  have e4 := keep h8 q4
                  replace hw8 := Lib.hid hw8
                  replace h8 := Lib.hid h8
                  replace hx8 := Lib.hid hx8
                  go_upto_region 34 with fail
                  rw [← hw8.out]
                  clear hw8
                  go_wp2_with fail
                  refine (AStr.aGet_nil sl gn w8).mono ?_
                  rintro z w9 ⟨rfl, hb9⟩
                  have h9 := h8.out.trans (hb9.mono h8.out.size)
                  have e3' := keep h9 q3
                  have e4' := keep h9 q4
                  have v0 : w8.cell? ⟨w7.heap.size, 0, none⟩ = some (.int .i64 0) := by rw [cell_of_heap hx8.out]; rfl
                  have v1 : w8.cell? ⟨w7.heap.size, 1, none⟩ = some (.int .u64 0) := by rw [cell_of_heap hx8.out]; rfl
                  have u0 := keep hb9 v0
                  have u1 := keep hb9 v1
                  have ul := block_lt_of_cell u0
                  clear e3 e4 hb9 hx8 h8 v0 v1
                  replace h9 := Lib.hid h9
                  generalize w7.heap.size = xb7 at *
                  go_wp2_with fail
                  refine (AStr.aRelease_nil sl gn w9).mono ?_
                  rintro z w10 ⟨rfl, hb10⟩
                  have h10 := Lib.hid (h9.out.trans (hb10.mono h9.out.size))
                  clear h9 hb10 u0 u1 ul e3' e4' z7
                  go_wp2_with fail
                  go_roundg (k - (i + 1))
                  case measure => omega
                  case rel => exact ⟨i + 1, rfl, by omega, by go_num, h10.out⟩
                · obtain rfl : i = k := by omega
                  replace hb := Lib.hid hb
                  go_wp2_with fail
                  refine (AStr.aLive_nil wr).mono ?_
                  rintro z w9 ⟨rfl, hb9⟩
                  have h9 := Lib.hid (hb.out.trans (hb9.mono hb.out.size))
                  clear hb hb9
                  go_wp2_with fail
                  refine (handles_nil w9).mono ?_
                  rintro z w10 ⟨rfl, hb10⟩
                  have h10 := Lib.hid (h9.out.trans (hb10.mono h9.out.size))
                  clear h9 hb10
                  go_wp2_with fail
                  go_ret
                  exact ⟨rfl, h10.out⟩
end Go.Proofs.Ytoknkedmpdcinaa
