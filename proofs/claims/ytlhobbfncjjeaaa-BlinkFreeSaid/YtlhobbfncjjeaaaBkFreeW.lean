/- The walk of the law BlinkFree. -/
import Derived.Test.YtlhobbfncjjeaaaBkTwo
import Derived.Test.YtlhobbfncjjeaaaBkPairs
import Derived.Test.YtlhobbfncjjeaaaBkHands
namespace Go.Proofs.Ytlhobbfncjjeaaa
open Go.RowKit
set_option maxRecDepth 100000 in
set_option maxHeartbeats 4000000 in
theorem freeLaw_walk (s : Option Addr) (len cap : Nat) (rows : List (List Value)) (s2 : Option Addr) (len2 cap2 : Nat) (rows2 : List (List Value)) (w : World) (hr : IsFlat [.inl .i64, .inr false, .inr false, .inr true] w s len rows) (hr2 : IsFlat [.inl .i64, .inr false, .inr false, .inr true] w s2 len2 rows2) :
    Calls Try.prog 6 #[.slice s len cap, .slice s2 len2 cap2] w fun e w' => e = .returned (.bool true) ∧ Below w.heap.size w w' := by
  have hlen : len ≤ maxLen := by
    rcases hr with ⟨h0, _⟩ | ⟨_, _, _, h1, _⟩
    · rw [h0]; exact Nat.zero_le _
    · exact h1
  have hlen2 : len2 ≤ maxLen := by
    rcases hr2 with ⟨h0, _⟩ | ⟨_, _, _, h1, _⟩
    · rw [h0]; exact Nat.zero_le _
    · exact h1
  obtain ⟨L, rfl, hL, hsz⟩ := acts_of_flat hr
  obtain ⟨M, rfl, hM, hsz2⟩ := acts_of_flat hr2
  clear hr hr2
  have hAw := Lib.hid (awake10_any w)
  have hGr := Lib.hid fun W (hW : Below w.heap.size w W) => great10_any s cap L W (hL.below hW) hsz hlen
  have hGr2 := Lib.hid fun W (hW : Below w.heap.size w W) => great10_any s2 cap2 M W (hM.below hW) hsz2 hlen2
  have hMa := Lib.hid fun W (hW : Below w.heap.size w W) h300 => made10_any s cap L W (hL.below hW) h300
  have hro := Lib.hid hM
  have hHh := Lib.hid hands_ok
  clear hL hlen hlen2 hsz hsz2 hM
  go_enter Try.func6, Try.ntmps6
  go_wp2_with fail
  refine hAw.out.mono ?_
  clear hAw
  rintro e w1 ⟨rfl, hb1⟩
  go_wp2_with fail
  refine (hGr.out w1 hb1).mono ?_
  clear hGr
  rintro e w2 ⟨rfl | ⟨rfl, h300⟩, hb2⟩
  · replace hb2 := Lib.hid (hb1.trans (hb2.mono hb1.size))
    go_wp2_with fail
    go_ret
    exact ⟨rfl, hb2.out⟩
  have hb12 := hb1.trans (hb2.mono hb1.size)
  clear hb1 hb2
  go_wp2_with fail
  refine (hGr2.out w2 hb12).mono ?_
  clear hGr2
  rintro e w3 ⟨rfl | ⟨rfl, h302⟩, hb3⟩
  · replace hb3 := Lib.hid (hb12.trans (hb3.mono hb12.size))
    go_wp2_with fail
    go_ret
    exact ⟨rfl, hb3.out⟩
  have hb13 := hb12.trans (hb3.mono hb12.size)
  have hMd := Lib.hid (hMa.out w3 hb13 h300)
  replace hb13 := Lib.hid hb13
  clear hMa hb12 hb3
  go_wp2_with fail
  refine hMd.out.mono ?_
  clear hMd
  rintro e w4 ⟨p, t, rfl, hT, hCl⟩
  have hC100 : (doneC L).length ≤ 100000 := by omega
  have hAll := Lib.hid (hT.all hC100)
  obtain ⟨na, hNl, hna, hNw⟩ := Two.new hT (by omega)
  obtain ⟨C, hC⟩ : ∃ C, C = doneC L := ⟨_, rfl⟩
  rw [← hC] at hAll hC100
  rw [← hC] at hNw
  replace hNl := Lib.hid hNl
  replace hNw := Lib.hid hNw
  clear hT hC hCl
  go_wp2_with fail
  refine hAll.out.mono ?_
  clear hAll
  rintro e w5 ⟨aa, ac, rfl, hra, hb5⟩
  have hAt := Lib.hid (And.intro hra.at' (row_bksT hra))
  replace hb5 := Lib.hid hb5
  obtain ⟨cl, hcl⟩ : ∃ cl, cl = C.length := ⟨_, rfl⟩
  rw [← hcl] at hC100 ⊢
  replace hcl := Lib.hid hcl
  clear hra
  go_wp2_with fail
  refine (hNl.out w5 hb5.out).mono ?_
  clear hNl
  rintro e w6 ⟨rfl, hb6⟩
  have hb56 := Lib.hid (hb5.out.trans (hb6.mono hb5.out.size))
  have hAt6 := Lib.hid (And.intro (hAt.out.1.below hb6) hAt.out.2)
  clear hb6 hb5 hAt
  go_wp2_with fail
  refine (hNw.out w6 aa ac hb56.out hAt6.out.1 hAt6.out.2).mono ?_
  clear hNw
  rintro e w7 ⟨tb, rfl, hT2⟩
  have hwna : IntKind.i64.wrap ((na : Int) + 1) = (na : Int) + 1 := IntWalk.i64_in _ (by omega)
  obtain ⟨nb, hcn⟩ := hT2.counts
  obtain ⟨_, _, _, hnb1, _⟩ := hcn w7 (Below.refl _ _)
  have hnb := hnb1 rfl
  subst hnb
  have hc1 := Lib.hid (hcn w7 (Below.refl _ _)).1
  replace hcn := Lib.hid hcn
  replace hT2 := Lib.hid hT2
  clear hnb1 hAt6
  go_wp2_with fail
  refine hc1.out.mono ?_
  clear hc1
  rintro e w8 ⟨rfl, hb8⟩
  have hc2 := Lib.hid (hcn.out w8 hb8).2.2.1
  replace hb8 := Lib.hid hb8
  go_wp2_with fail
  refine hc2.out.mono ?_
  clear hc2 hcn
  rintro e w9 ⟨rfl, hb9⟩
  have hb89 := hb8.out.trans (hb9.mono hb8.out.size)
  have hT9 := Lib.hid (hT2.out.below hb89)
  clear hb9 hb89 hb8 hT2
  have hb03 := Lib.hid hb13.out
  have hbs := Lib.hid fun W Cb lvb (h : Two w3 W p t tb C na aa ac Cb lvb) => hb13.out.trans (h.bel.mono hb13.out.size)
  clear hb13
  obtain ⟨n, hn⟩ : ∃ n, n = M.length := ⟨_, rfl⟩
  rw [← hn] at h302 ⊢
  replace hn := Lib.hid hn
  go_wp2_with fail
  go_loopg [12] n (fun gk v wr => ∃ k : Nat, gk = n - k ∧ k ≤ n ∧ v = .int .i64 k ∧ Two w3 wr p t tb C na aa ac (doneC (M.take k)) (k + 1) ∧ (doneC (M.take k)).length ≤ k)
  case atStart => exact ⟨0, rfl, by omega, rfl, hT9.out, by simp [doneC]⟩
  case round =>
    clear hT9
    obtain ⟨k, rfl, hk, rfl, hT, hCl⟩ := hrel
    by_cases hlt : k < n
    · -- <<acts
      obtain ⟨x, hx⟩ : ∃ x, M[k]? = some x := ⟨_, List.getElem?_eq_getElem (by have := hn.out; omega)⟩
      obtain ⟨b, off, rfl, hbw, hact⟩ := hro.out k x hx
      have hsn : Hid (doneC (M.take (k + 1)) = stepC (doneC (M.take k)) x) := Lib.hid (by rw [take_next hx, doneC_snoc])
      have hl1 : Hid ((cput (doneC (M.take k)) x.2.1 x.2.2.1).length ≤ (doneC (M.take k)).length + 1) := Lib.hid (by rw [cput_len hT.sorted]; split <;> omega)
      have hl2 : Hid ((cdel (doneC (M.take k)) x.2.1).length ≤ (doneC (M.take k)).length) := Lib.hid (by rw [(cdel_len hT.sorted x.2.1).1]; split <;> omega)
      have hPu := Lib.hid fun W (hW : Below wr.heap.size wr W) => (hT.below hW).put (by omega) (by omega) (by omega) x.2.1 x.2.2.1
      have hDe := Lib.hid fun W (hW : Below wr.heap.size wr W) => (hT.below hW).delete (by omega) (by omega) x.2.1
      have hT' := Lib.hid hT
      obtain ⟨g0, g1, g2, g3⟩ := hact.below (hbs.out wr _ _ hT)
      have hbw2 := block_lt_of_cell g0
      obtain ⟨Cb, hCb⟩ : ∃ Cb, Cb = doneC (M.take k) := ⟨_, rfl⟩
      rw [← hCb] at hCl hsn hl1 hl2 hPu hDe hT'
      clear hT hCb hact
      obtain ⟨dd, x1, x2, aft⟩ := x
      simp only at g0 g1 g2 g3 hl1 hl2 hPu hDe
      have hA2 : (k : Int) < (n : Int) := by omega
      have hA3 : (0 : Int) ≤ (k : Int) := by omega
      have hw1 : IntKind.i64.wrap ((k : Int) + 1) = (k : Int) + 1 := IntWalk.i64_in _ (by omega)
      replace hx := Lib.hid hx
      by_cases h0 : dd = 0
      · subst h0
        go_upto_region 18 with fail
        go_region_with (go_at_call 25; refine (hPu.out _ (Below.refl _ _).drew).mono ?_; rintro z w5 ⟨old, had, rfl, hT5⟩; replace hT5 := Lib.hid hT5)
        all_goals
          go_wp2_with fail
          go_roundg (n - (k + 1))
          case rel =>
            refine ⟨k + 1, rfl, by omega, by go_num, ?_, ?_⟩
            · rw [hsn.out]; exact hT5.out
            · rw [hsn.out]
              have := hl1.out
              show (cput Cb x1 x2).length ≤ k + 1
              omega
          case measure => omega
      · have h0b : (dd == 0) = false := by simpa using h0
        by_cases h1 : dd = 1
        · subst h1
          replace h0 := Lib.hid h0
          go_wp2_with fail
          refine (hDe.out _ (Below.refl _ _)).mono ?_
          rintro z w5 ⟨old, had, rfl, hT5⟩
          replace hT5 := Lib.hid hT5
          go_wp2_with fail
          go_roundg (n - (k + 1))
          case rel =>
            refine ⟨k + 1, rfl, by omega, by go_num, ?_, ?_⟩
            · rw [hsn.out]; exact hT5.out.up (by omega)
            · rw [hsn.out]
              have := hl2.out
              show (cdel Cb x1).length ≤ k + 1
              omega
          case measure => omega
        · have h1b : (dd == 1) = false := by simpa using h1
          have hst : Hid (stepC Cb (dd, x1, x2, aft) = Cb) := Lib.hid (by unfold stepC; rw [if_neg h0, if_neg h1])
          replace h0 := Lib.hid h0
          replace h1 := Lib.hid h1
          go_wp2_with fail
          go_roundg (n - (k + 1))
          case rel =>
            refine ⟨k + 1, rfl, by omega, by go_num, ?_, ?_⟩
            · rw [hsn.out, hst.out]; exact hT'.out.up (by omega)
            · rw [hsn.out, hst.out]; omega
          case measure => omega
      -- >>acts
    · obtain rfl : n = k := by omega
      have hT1 := hT.up (l := 301) (by omega)
      obtain ⟨nb, hcn⟩ := hT1.counts
      have hCk := Lib.hid fun W (hW : Below wr.heap.size wr W) => (hT1.below hW).checkB (by omega) (by omega)
      have hDr := Lib.hid fun W (hW : Below wr.heap.size wr W) => (hT1.below hW).dropB hHh.out (by omega)
      have hc1 := Lib.hid (hcn wr (Below.refl _ _)).2.2.1
      have hc2 := Lib.hid fun W hW => (hcn W hW).1
      have hc3 := Lib.hid fun W hW => (hcn W hW).2.1
      have hwn : IntKind.i64.wrap ((na : Int) + (nb : Int)) = ((na + nb : Nat) : Int) := IntWalk.i64_in _ (by have := (hcn wr (Below.refl _ _)).2.2.2.2; omega)
      clear hT hT1 hcn hHh
      go_wp2_with fail
      refine hc1.out.mono ?_
      clear hc1
      rintro e w10 ⟨rfl, hb10⟩
      replace hc2 := Lib.hid (hc2.out w10 hb10)
      replace hb10 := Lib.hid hb10
      go_wp2_with fail
      refine hc2.out.mono ?_
      clear hc2
      rintro e w11 ⟨rfl, hb11⟩
      replace hb11 := Lib.hid (hb10.out.trans (hb11.mono hb10.out.size))
      replace hc3 := Lib.hid (hc3.out w11 hb11.out)
      clear hb10
      go_wp2_with fail
      refine hc3.out.mono ?_
      clear hc3
      rintro e w12 ⟨rfl, hb12⟩
      replace hb12 := Lib.hid (hb11.out.trans (hb12.mono hb11.out.size))
      replace hCk := Lib.hid (hCk.out w12 hb12.out)
      clear hb11
      go_wp2_with fail
      refine hCk.out.mono ?_
      clear hCk
      rintro e w13 ⟨rfl, hb13⟩
      replace hb13 := Lib.hid (hb12.out.trans (hb13.mono hb12.out.size))
      replace hDr := Lib.hid (hDr.out w13 hb13.out)
      clear hb12
      go_wp2_with fail
      refine hDr.out.mono ?_
      clear hDr
      rintro e w14 ⟨rfl, hG⟩
      obtain ⟨g1, _, _, _, _, _, _, _, _⟩ := hG.all (by have := hcl.out; omega) (by omega)
      have hGl := Lib.hid fun W (hW : Below w14.heap.size w14 W) => (hG.below hW).all (by have := hcl.out; omega) (by omega)
      have hbG := Lib.hid (hb03.out.trans (hG.bel.mono hb03.out.size))
      have hd1 := Lib.hid g1
      clear g1 hG hb13
      go_wp2_with fail
      refine hd1.out.mono ?_
      clear hd1
      rintro e w15 ⟨rfl, rfl⟩
      have hp1 := Lib.hid ((hGl.out w14 (Below.refl _ _)).2.1 ⟨#[97]⟩ ⟨#[98]⟩)
      go_wp2_with fail
      refine hp1.out.mono ?_
      clear hp1
      rintro e w16 ⟨rfl, hb16⟩
      have hq1 := Lib.hid (hGl.out w16 hb16).2.2.1
      have hq2 := Lib.hid (hGl.out w16 hb16).2.2.2.1
      replace hb16 := Lib.hid hb16
      go_wp2_with fail
      refine hq1.out.mono ?_
      clear hq1
      rintro e w17 ⟨rfl, rfl⟩
      go_wp2_with fail
      refine hq2.out.mono ?_
      clear hq2
      rintro e w18 ⟨rfl, hb18⟩
      replace hb18 := Lib.hid (hb16.out.trans (hb18.mono hb16.out.size))
      have hq3 := Lib.hid (hGl.out w18 hb18.out).2.2.2.2.1
      clear hb16
      go_wp2_with fail
      refine hq3.out.mono ?_
      clear hq3
      rintro e w19 ⟨rfl, hb19⟩
      replace hb19 := Lib.hid (hb18.out.trans (hb19.mono hb18.out.size))
      have hq4 := Lib.hid (hGl.out w19 hb19.out).2.2.2.2.2.1
      clear hb18
      go_wp2_with fail
      refine hq4.out.mono ?_
      clear hq4
      rintro e w20 ⟨rfl, hb20⟩
      replace hb20 := Lib.hid (hb19.out.trans (hb20.mono hb19.out.size))
      have hq5 := Lib.hid (hGl.out w20 hb20.out).2.2.2.2.2.2.1
      clear hb19
      go_wp2_with fail
      refine hq5.out.mono ?_
      clear hq5
      rintro e w21 ⟨rfl, hb21⟩
      replace hb21 := Lib.hid (hb20.out.trans (hb21.mono hb20.out.size))
      have hq6 := Lib.hid (hGl.out w21 hb21.out).2.2.2.2.2.2.2.1
      unfold AllEnd at hq6
      rw [← hcl.out] at hq6
      clear hb20
      go_wp2_with fail
      refine hq6.out.mono ?_
      clear hq6
      rintro e w22 ⟨a2, c2, rfl, hr2, hb22⟩
      replace hb22 := Lib.hid (hb21.out.trans (hb22.mono hb21.out.size))
      have hA22 := (hGl.out w22 hb22.out).2.2.2.2.2.2.2.2
      rw [hcl.out] at hr2
      have hpr := pairs10_any a2 aa c2 ac C w22 hr2.at' hA22 (by have := hcl.out; omega)
      rw [← hcl.out] at hpr
      replace hpr := Lib.hid hpr
      clear hr2 hA22 hb21 hGl
      go_wp2_with fail
      refine hpr.out.mono ?_
      clear hpr
      rintro e w23 ⟨rfl, hb23⟩
      replace hb23 := Lib.hid (hbG.out.trans ((hb22.out.trans (hb23.mono hb22.out.size)).mono hbG.out.size))
      go_wp2_with fail
      go_ret
      exact ⟨by simp, hb23.out⟩
end Go.Proofs.Ytlhobbfncjjeaaa
