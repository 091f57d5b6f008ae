/- The walk of the law ArtAlike. -/
import Derived.Test.YtmhlokomlngdmaaGreatArtSm
import Derived.Test.YtmhlokomlngdmaaGreatArtDp
import Derived.Deep.CutBlock
import Derived.Deep.DeepCutAuto
namespace Go.Proofs.YtmhlokomlngdmaaGreat
open Go.RowKit
theorem idx_facts (j n : Nat) (h : j + 1 < n) (hn : n ≤ 4096) : wrap64 ((j : Int) + 1 - 1) = (j : Int) ∧ IntKind.i64.wrap ((j : Int) + 1 - 1) = (j : Int) ∧ wrap64 (j : Int) = (j : Int) ∧ wrap64 ((j : Int) + 1) = (j : Int) + 1 ∧
    (0 : Int) < (j : Int) + 1 ∧ (j : Int) + 1 < (n : Int) ∧ (0 : Int) ≤ (j : Int) + 1 ∧ (j : Int) < (n : Int) ∧ (0 : Int) ≤ (j : Int) ∧ IntKind.i64.wrap (j : Int) = (j : Int) ∧ IntKind.i64.wrap ((j : Int) + 1) = (j : Int) + 1 ∧ IntKind.i64.wrap (((j + 1 : Nat) : Int) - 1) = (j : Int) := by
  refine ⟨?_, ?_, IntWalk.wrap64_in _ (by omega), IntWalk.wrap64_in _ (by omega), by omega, by omega, by omega, by omega, by omega, IntWalk.i64_in _ (by omega), IntWalk.i64_in _ (by omega), ?_⟩
  · rw [show ((j : Int) + 1 - 1) = (j : Int) by omega]
    exact IntWalk.wrap64_in _ (by omega)
  · rw [show ((j : Int) + 1 - 1) = (j : Int) by omega]
    exact IntWalk.i64_in _ (by omega)
  · rw [show (((j + 1 : Nat) : Int) - 1) = (j : Int) by omega]
    exact IntWalk.i64_in _ (by omega)
set_option maxRecDepth 100000 in
set_option maxHeartbeats 8000000 in
theorem alikeLaw_walk (s : Option Addr) (len cap : Nat) (rows : List (List Value)) (w : World) (hr : IsFlat [.inl .u8, .inr false, .inr false, .inr true] w s len rows) :
    Calls Tryz.prog 4 #[.slice s len cap] w fun e w' => e = .returned (.bool true) ∧ Below w.heap.size w w' := by
  have hlen : len ≤ maxLen := by
    rcases hr with ⟨h0, _⟩ | ⟨_, _, _, h1, _⟩
    · rw [h0]; exact Nat.zero_le _
    · exact h1
  obtain ⟨L, rfl, hL, hsz⟩ := acts_of_flat hr
  clear hr
  have hGr := great12_any s cap L w hL hsz hlen
  unfold maxLen at hlen
  replace hL := Lib.hid hL
  replace hsz := Lib.hid hsz
  go_enter Tryz.func4, Tryz.ntmps4
  go_wp2_with fail
  refine hGr.mono ?_
  clear hGr
  rintro e w2 ⟨rfl | ⟨rfl, h150, hsm⟩, hb2⟩
  · have hAw := awake12_any w2
    replace hb2 := Lib.hid hb2
    go_wp2_with fail
    refine hAw.mono ?_
    clear hAw
    rintro e w3 ⟨rfl, hb3⟩
    have hb := Lib.hid (hb2.out.trans (hb3.mono hb2.out.size))
    clear hb3
    go_wp2_with fail
    go_ret
    exact ⟨rfl, hb.out⟩
  have hRm := room12_any w2
  have hL2 := Lib.hid (hL.out.below hb2)
  replace hb2 := Lib.hid hb2
  replace hsm := Lib.hid hsm
  go_wp2_with fail
  refine hRm.mono ?_
  clear hRm
  rintro e w3 ⟨p, t, rfl, hT3⟩
  have hPl := plays12_any hT3 s cap L hL2.out hsz.out hsm.out h150
  replace hT3 := Lib.hid hT3
  go_wp2_with fail
  refine hPl.mono ?_
  clear hPl
  rintro e w4 ⟨rfl, hT4⟩
  obtain ⟨C, hC⟩ : ∃ C, C = play12 4096 [] L := ⟨_, rfl⟩
  rw [← hC] at hT4
  have hcs := hT4.srt
  obtain ⟨hcl, hnl⟩ := hT4.len_le
  have hAl := hT4.all
  replace hcs := Lib.hid hcs
  replace hnl := Lib.hid hnl
  replace hT4 := Lib.hid hT4
  clear hC
  go_wp2_with fail
  refine hAl.mono ?_
  clear hAl
  rintro e w5 ⟨aa, ac, rfl, hra, hb5⟩
  have hT5 := hT4.out.zone hb5
  obtain ⟨Z, hZ⟩ : ∃ Z : Nat → Prop, Z = fun q => w4.heap.size ≤ q ∧ q < w5.heap.size := ⟨_, rfl⟩
  rw [← hZ] at hT5
  have hpz := Lib.hid fun W (hW : KeepZ Z w5 W) i x hx => pairs_keep hra (Z := Z) (by rw [hZ]; exact fun q h1 h2 => ⟨h1, h2⟩) W hW (i := i) (x := x) hx
  have hpc := Lib.hid fun W (hW : Below w5.heap.size w5 W) i x hx => pair_cells (hra.at'.below hW) (i := i) (x := x) hx
  have hraA := Lib.hid hra.at'
  have hB5 : Below w.heap.size w w5 := hb2.out.trans (hT5.x.bel.mono hb2.out.size)
  obtain ⟨n, hn⟩ : ∃ n, n = C.length := ⟨_, rfl⟩
  rw [← hn] at hcl ⊢
  have hRm := room12_any w5
  replace hn := Lib.hid hn
  replace hB5 := Lib.hid hB5
  replace hb5 := Lib.hid hb5
  replace hT5 := Lib.hid hT5
  clear hra hZ
  go_wp2_with fail
  refine hRm.mono ?_
  clear hRm
  rintro e w6 ⟨q, sq, rfl, hS6⟩
  replace hS6 := Lib.hid hS6
  have hw1 : IntKind.i64.wrap ((n : Int) - 1) = (n : Int) - 1 := IntWalk.i64_in _ (by omega)
  go_upto_block 0 with fail
  go_cut [9] (fun _ wz => ATx w5 wz q sq 4096 C)
  case first =>
    go_wp2_with fail
    go_loopg [9] n (fun gk v9 wr => ∃ k : Nat, gk = k ∧ k ≤ n ∧ v9 = .int .i64 ((k : Int) - 1) ∧ ATx w5 wr q sq 4096 (C.drop k))
    case atStart => exact ⟨n, rfl, Nat.le_refl _, rfl, by rw [hn.out, List.drop_length]; exact hS6.out⟩
    case round =>
      clear hS6 hw1
      obtain ⟨k, hgk, hkn, rfl, hS⟩ := hrel
      subst hgk
      cases gk with
      | zero =>
        rw [List.drop_zero] at hS
        rw [show ((0 : Nat) : Int) - 1 = -1 by omega]
        replace hS := Lib.hid hS
        go_wp2_with fail
        go_meet
        exact hS.out
      | succ j =>
        rw [show (((j + 1 : Nat) : Int) - 1) = (j : Int) by omega]
        obtain ⟨x, hx⟩ : ∃ x, C[j]? = some x := ⟨_, List.getElem?_eq_getElem (by have := hn.out; omega)⟩
        obtain ⟨b, o, rfl, hb1, hl1, hc1, o0, o1⟩ := hpc.out w5 (Below.refl _ _) j x hx
        have k0 := keep hS.bel o0
        have k1 := keep hS.bel o1
        have hbw := block_lt_of_cell k0
        have hA2 : (j : Int) < (n : Int) := by omega
        have hA3 : (0 : Int) ≤ (j : Int) := by omega
        have hw1 : IntKind.i64.wrap ((j : Int) - 1) = (j : Int) - 1 := IntWalk.i64_in _ (by omega)
        have hl2 : n ≤ ac := by have := hn.out; omega
        have hkz : x.1.size ≤ 600 := hT5.out.x.key_le (List.mem_of_getElem? hx)
        obtain ⟨pv, hpv⟩ : ∃ pv, pv = putV (C.drop (j + 1)) 4096 x.1 x.2 := ⟨_, rfl⟩
        have hPu : Hid (∀ W, Below wr.heap.size wr W → Calls Tryz.prog 18 #[.pointer (some ⟨sq, 0, none⟩), .string x.1, .string x.2] W fun e w' => e = .returned pv ∧ ATx w5 w' q sq 4096 (C.drop j)) := Lib.hid fun W hW => by
          have h1 := (hS.below hW).put x.1 x.2 hkz
          have hst : putC (C.drop (j + 1)) 4096 x.1 x.2 = C.drop j := by
            unfold putC
            rw [drop_put hcs.out hx, if_pos (Nat.le_trans (drop_nodes C j) hnl.out)]
          rw [hst, ← hpv] at h1
          exact h1
        clear hpv
        obtain ⟨p1, q1⟩ := x
        simp only at k0 k1 o0 o1 hPu
        replace o0 := Lib.hid o0
        replace o1 := Lib.hid o1
        replace hx := Lib.hid hx
        replace hl1 := Lib.hid hl1
        replace hS := Lib.hid hS
        replace hkz := Lib.hid hkz
        go_upto_region 14 with fail
        go_region_held3 (fun W' => W'.cell? ⟨b, o + j * 2, none⟩ = some (.string p1) ∧ W'.cell? ⟨b, o + j * 2 + 1, none⟩ = some (.string q1)) (first | exact ⟨k0, k1⟩ | exact ⟨i1, i2⟩ | go_keep) (first
          | (go_at_call 18; refine (hPu.out _ (Below.refl _ _).drew).mono ?_; rintro z w7 ⟨rfl, hS7⟩; have i1 := keep hS7.bel o0.out; have i2 := keep hS7.bel o1.out; replace hS7 := Lib.hid hS7))
        all_goals
          go_wp2_with fail
          go_roundg j
          case rel => exact ⟨j, rfl, by omega, rfl, hS7.out⟩
          case measure => omega
  case rest =>
    obtain ⟨wd, hwd⟩ : ∃ wd, wd = wc := ⟨_, rfl⟩
    rw [← hwd] at hcut ⊢
    clear hwd
    have hB56 := hcut.bel
    have hT6 := hT5.out.below hB56
    have hK6 := hT5.out.keepB hB56
    have hAl2 := hcut.all
    replace hcut := Lib.hid hcut
    replace hB56 := Lib.hid hB56
    replace hT6 := Lib.hid hT6
    replace hK6 := Lib.hid hK6
    clear hS6 hw1
    go_wp2_with fail
    refine hAl2.mono ?_
    clear hAl2
    rintro e w7 ⟨ab, ad, rfl, hrb, hb7⟩
    have hSm := same12_any aa ab ac ad C w7 (hraA.out.below (hB56.out.trans (hb7.mono hB56.out.size))) hrb.at' (by have := hn.out; omega)
    rw [← hn.out] at hSm ⊢
    have hS7 := hcut.out.below hb7
    have hT7 := hT6.out.below hb7
    have hK7 := hK6.out.trans (hT6.out.keepB hb7)
    have hsS := Lib.hid fun W (hW : Below w7.heap.size w7 W) => (hS7.below hW).slots
    have hsT := Lib.hid fun W (hW : Below w7.heap.size w7 W) => (hT7.x.below hW).slots
    have hlS := Lib.hid fun W (hW : Below w7.heap.size w7 W) => (hS7.below hW).length
    have hvS := Lib.hid fun W (hW : Below w7.heap.size w7 W) => (hS7.below hW).live
    have hvT := Lib.hid fun W (hW : Below w7.heap.size w7 W) => (hT7.x.below hW).live
    have hcT := Lib.hid fun W (hW : Below w7.heap.size w7 W) => (hT7.x.below hW).check
    rw [← hn.out] at hlS
    obtain ⟨N, hN⟩ : ∃ N, N = nodesN C := ⟨_, rfl⟩
    rw [← hN] at hsS hsT hvS hvT
    replace hN := Lib.hid hN
    replace hS7 := Lib.hid hS7
    replace hT7 := Lib.hid hT7
    replace hK7 := Lib.hid hK7
    replace hb7 := Lib.hid hb7
    clear hrb
    go_wp2_with fail
    refine hSm.mono ?_
    clear hSm
    rintro e w8 ⟨rfl, hb8⟩
    have g1 := hsS.out w8 hb8
    replace hb8 := Lib.hid hb8
    go_wp2_with fail
    refine g1.mono ?_
    clear g1
    rintro e w9 ⟨rfl, hb9⟩
    replace hb9 := hb8.out.trans (hb9.mono hb8.out.size)
    have g1 := hsT.out w9 hb9
    replace hb9 := Lib.hid hb9
    go_wp2_with fail
    refine g1.mono ?_
    clear g1
    rintro e w10 ⟨rfl, hb10⟩
    replace hb10 := hb9.out.trans (hb10.mono hb9.out.size)
    have g1 := hlS.out w10 hb10
    replace hb10 := Lib.hid hb10
    go_wp2_with fail
    refine g1.mono ?_
    clear g1
    rintro e w11 ⟨rfl, rfl⟩
    have g1 := hvT.out w10 hb10.out
    go_wp2_with fail
    refine g1.mono ?_
    clear g1
    rintro e w12 ⟨rfl, hb12⟩
    replace hb12 := hb10.out.trans (hb12.mono hb10.out.size)
    have g1 := hvS.out w12 hb12
    replace hb12 := Lib.hid hb12
    go_wp2_with fail
    refine g1.mono ?_
    clear g1
    rintro e w13 ⟨rfl, hb13⟩
    replace hb13 := hb12.out.trans (hb13.mono hb12.out.size)
    have g1 := hcT.out w13 hb13
    replace hb13 := Lib.hid hb13
    go_wp2_with fail
    refine g1.mono ?_
    clear g1
    rintro e w14 ⟨rfl, hb14⟩
    replace hb14 := hb13.out.trans (hb14.mono hb13.out.size)
    have hT14 := hT7.out.below hb14
    have hK14 := hK7.out.trans (hT7.out.keepB hb14)
    replace hb14 := Lib.hid hb14
    replace hT14 := Lib.hid hT14
    replace hK14 := Lib.hid hK14
    clear hsS hsT hlS hvS hvT hcT
    have hLs := Lib.hid fun x y (hy : y.size ≤ 600) W => less_any x y (.inr (by unfold maxLen; omega)) W
    go_upto_block 2 with fail
    go_cut [10] (fun _ wz => ATx w2 wz p t 4096 [])
    case first =>
      go_wp2_with fail
      go_loopg [10] n (fun gk v wr => ∃ k : Nat, gk = n - k ∧ k ≤ n ∧ v = .int .i64 k ∧ ATz w2 wr p t 4096 (C.drop k) Z ∧ KeepZ Z w5 wr)
      case atStart => exact ⟨0, rfl, Nat.zero_le _, rfl, hT14.out, hK14.out⟩
      case round =>
        clear hT14 hK14 hT5 hT6 hT7
        obtain ⟨k, rfl, hk, rfl, hT, hK⟩ := hrel
        by_cases hlt : k < n
        · obtain ⟨x, hx⟩ : ∃ x, C[k]? = some x := ⟨_, List.getElem?_eq_getElem (by have := hn.out; omega)⟩
          obtain ⟨b, rfl, hZb, hl1, hc1, k0, k1⟩ := hpz.out wr hK k x hx
          have hbw := block_lt_of_cell k0
          have hA2 : (k : Int) < (n : Int) := by omega
          have hA3 : (0 : Int) ≤ (k : Int) := by omega
          have hw1 : IntKind.i64.wrap ((k : Int) + 1) = (k : Int) + 1 := IntWalk.i64_in _ (by omega)
          have hl2 : n ≤ ac := by have := hn.out; omega
          have hkz : x.1.size ≤ 600 := hT.x.key_le (by rw [drop_at hx]; simp)
          have hdl := Lib.hid fun W (hW : Below wr.heap.size wr W) => (hT.below hW).delete x.1 hkz
          have hprev : Hid (∀ j, k = j + 1 → ∃ y, C[j]? = some y ∧ slt y.1 x.1 = true ∧ wr.cell? ⟨b, j * 2, none⟩ = some (.string y.1)) := Lib.hid fun j hj => by
            obtain ⟨y, hy⟩ : ∃ y, C[j]? = some y := ⟨_, List.getElem?_eq_getElem (by have := hn.out; omega)⟩
            obtain ⟨b', e, _, _, _, j0, _⟩ := hpz.out wr hK j y hy
            injection e with e
            injection e with e
            subst e
            exact ⟨y, hy, csort_lt hcs.out (by omega) hy hx, j0⟩
          have hkW := Lib.hid fun W (hW : KeepZ Z wr W) => (KeepZ.cell hW hZb k1 : W.cell? ⟨b, k * 2 + 1, none⟩ = some (.string x.2))
          have hkB := Lib.hid fun W (hW : Below wr.heap.size wr W) => hT.keepB hW
          have hcg := Lib.hid (drop_get hcs.out hx)
          have hcd := Lib.hid (drop_del hcs.out hx)
          obtain ⟨p1, q1⟩ := x
          simp only at k0 k1 hdl hprev hkW hcg hcd hkz
          replace hx := Lib.hid hx
          replace hT := Lib.hid hT
          replace hK := Lib.hid hK
          replace hl1 := Lib.hid hl1
          replace hkz := Lib.hid hkz
          go_upto_region 20 with fail
          go_cut [107] (fun v wz => v = .bool false ∧ Below wr.heap.size wr wz)
          case first =>
            by_cases hk0 : k = 0
            · subst hk0
              go_quiet (fail)
              go_wp2_with fail
              go_meet
              exact ⟨rfl, below_drewN (Below.refl _ _) _⟩
            · obtain ⟨j, rfl⟩ : ∃ j, k = j + 1 := ⟨k - 1, by omega⟩
              obtain ⟨y, hy, hylt, j0⟩ := hprev.out j rfl
              have hls := Lib.hid fun W => hLs.out y.1 p1 hkz.out W
              rw [hylt] at hls
              obtain ⟨e1, e2, e3, e4, e5, e6, e7, e8, e9, e10, e11, e12⟩ := idx_facts j n hlt hcl
              clear hA2 hA3 hw1
              obtain ⟨y1, y2⟩ := y
              simp only at j0 hls
              replace hy := Lib.hid hy
              replace hylt := Lib.hid hylt
              clear k1
              go_region_held3 (fun W' => W'.cell? ⟨b, j * 2, none⟩ = some (.string y1) ∧ W'.cell? ⟨b, (j + 1) * 2, none⟩ = some (.string p1)) (first | exact ⟨j0, k0⟩ | exact ⟨i1, i2⟩ | go_keep) (first
                | (go_at_call 23; refine (hls.out _).mono ?_; rintro z w15 ⟨rfl, hb15⟩; have hb16 : Below wr.heap.size wr w15 := bel_dr (k := 1) hb15; have i1 := keep hb16 j0; have i2 := keep hb16 k0; replace hb15 := Lib.hid hb15; replace hb16 := Lib.hid hb16))
              all_goals
                go_wp2_with fail
                go_meet
                exact ⟨rfl, hb16.out⟩
          case rest =>
            obtain ⟨rfl, hbz⟩ := hcut
            obtain ⟨we, hwe⟩ : ∃ we, we = wc := ⟨_, rfl⟩
            rw [← hwe] at hbz ⊢
            clear hwe
            have x0 := keep hbz k0
            have xq := Nat.lt_of_lt_of_le hbw hbz.size
            have hd := hdl.out we hbz
            rw [hcg.out, hcd.out] at hd
            simp only [Option.getD_some, Option.isSome_some] at hd
            have hKe := hkB.out we hbz
            replace hKe := Lib.hid hKe
            replace hbz := Lib.hid hbz
            clear k0 k1 hprev
            go_wp2_with fail
            refine hd.mono ?_
            clear hd
            rintro z w16 ⟨rfl, hT16, hK16⟩
            have hKr := hKe.out.trans hK16
            have y1 := hkW.out w16 hKr
            have yq := block_lt_of_cell y1
            have hKw := Lib.hid (hK.out.trans hKr)
            have hC16 := hT16.x.check
            replace hT16 := Lib.hid hT16
            replace hK16 := Lib.hid hK16
            replace hKr := Lib.hid hKr
            clear x0
            go_wp2_with fail
            refine hC16.mono ?_
            clear hC16
            rintro z w17 ⟨rfl, hb17⟩
            have hT17 := Lib.hid (hT16.out.below hb17)
            have hK17 := Lib.hid (hKw.out.trans (hT16.out.keepB hb17))
            clear hb17 y1
            go_wp2_with fail
            go_roundg (n - (k + 1))
            case rel => exact ⟨k + 1, rfl, by omega, by go_num, hT17.out, hK17.out⟩
            case measure => omega
        · obtain rfl : k = n := by omega
          have hd0 : C.drop k = [] := List.drop_eq_nil_iff.2 (by have := hn.out; omega)
          rw [hd0] at hT
          replace hT := Lib.hid hT
          replace hK := Lib.hid hK
          go_wp2_with fail
          go_meet
          exact hT.out.x
    case rest =>
      obtain ⟨we, hwe⟩ : ∃ we, we = wc := ⟨_, rfl⟩
      rw [← hwe] at hcut ⊢
      clear hwe
      have g1 := hcut.slots
      rw [show nodesN [] = 1 from rfl] at g1
      have hlT := Lib.hid fun W (hW : Below we.heap.size we W) => (hcut.below hW).length
      have hvT := Lib.hid fun W (hW : Below we.heap.size we W) => (hcut.below hW).live
      have hdT := Lib.hid fun W (hW : Below we.heap.size we W) => (hcut.below hW).drop
      rw [show nodesN [] = 1 from rfl] at hvT
      replace hcut := Lib.hid hcut
      clear hT14 hK14
      go_wp2_with fail
      refine g1.mono ?_
      clear g1
      rintro e w16 ⟨rfl, hb16⟩
      have g1 := hlT.out w16 hb16
      replace hb16 := Lib.hid hb16
      go_wp2_with fail
      refine g1.mono ?_
      clear g1
      rintro e w17 ⟨rfl, rfl⟩
      have g1 := hvT.out w16 hb16.out
      go_wp2_with fail
      refine g1.mono ?_
      clear g1
      rintro e w18 ⟨rfl, hb18⟩
      replace hb18 := hb16.out.trans (hb18.mono hb16.out.size)
      have g1 := hdT.out w18 hb18
      replace hb18 := Lib.hid hb18
      go_wp2_with fail
      refine g1.mono ?_
      clear g1
      rintro e w19 ⟨rfl, hG19⟩
      have g1 := hG19.live
      replace hG19 := Lib.hid hG19
      go_wp2_with fail
      refine g1.mono ?_
      clear g1
      rintro e w20 ⟨rfl, hb20⟩
      have hG20 := hG19.out.below hb20
      have g1 := hG20.gone.check
      replace hG20 := Lib.hid hG20
      clear hb20
      go_wp2_with fail
      refine g1.mono ?_
      clear g1
      rintro e w21 ⟨rfl, hb21⟩
      have hG21 := hG20.out.below hb21
      have hB21 := Lib.hid (hb2.out.trans (hG21.bel.mono hb2.out.size))
      have hAw := awake12_any w21
      clear hb21 hG21
      go_wp2_with fail
      refine hAw.mono ?_
      clear hAw
      rintro e w22 ⟨rfl, hb22⟩
      have hB22 := Lib.hid (hB21.out.trans (hb22.mono hB21.out.size))
      clear hb22
      go_wp2_with fail
      go_ret
      exact ⟨by simp, hB22.out⟩
end Go.Proofs.YtmhlokomlngdmaaGreat
