/- The walk of the law ArtBack. -/
import Derived.Test.YtmhlokomlngdmaaArtWalksW
import Derived.Test.YtmhlokomlngdmaaArtTz
import Derived.Deep.CutBlock
import Derived.Deep.DeepCutAuto
namespace Go.Proofs.Ytmhlokomlngdmaa
open Go.RowKit
theorem nodesN_keys {C C' : Cont} (h : ∀ k, (∃ v, (k, v) ∈ C) ↔ ∃ v, (k, v) ∈ C') : nodesN C = nodesN C' := by
  refine (perm_nd (nodup_dd _) (nodup_dd _) fun p => ?_).length_eq
  rw [mem_dd, mem_dd, mem_keyPaths, mem_keyPaths]
  have one : ∀ {A B : Cont}, (∀ k, (∃ v, (k, v) ∈ A) → ∃ v, (k, v) ∈ B) → (p = [] ∨ (∃ kv, kv ∈ A ∧ bl kv.1 = p) ∨ ∃ a b, a ∈ A ∧ b ∈ A ∧ a.1 ≠ b.1 ∧ p = cpre (bl a.1) (bl b.1)) → (p = [] ∨ (∃ kv, kv ∈ B ∧ bl kv.1 = p) ∨ ∃ a b, a ∈ B ∧ b ∈ B ∧ a.1 ≠ b.1 ∧ p = cpre (bl a.1) (bl b.1)) := by
    intro A B hAB
    rintro (h1 | ⟨kv, h1, h2⟩ | ⟨a, b, h1, h2, h3, h4⟩)
    · exact .inl h1
    · obtain ⟨v, hv⟩ := hAB kv.1 ⟨kv.2, h1⟩
      exact .inr (.inl ⟨_, hv, h2⟩)
    · obtain ⟨v, hv⟩ := hAB a.1 ⟨a.2, h1⟩
      obtain ⟨u, hu⟩ := hAB b.1 ⟨b.2, h2⟩
      exact .inr (.inr ⟨_, _, hv, hu, h3, h4⟩)
  exact ⟨one fun k => (h k).1, one fun k => (h k).2⟩
theorem nodesN_put {C : Cont} (hs : CSort C) {k u : Str} (h : cget C k = some u) (v : Str) : nodesN (cput C k v) = nodesN C := by
  refine nodesN_keys fun k' => ?_
  by_cases e : k = k'
  · subst e
    exact ⟨fun _ => ⟨u, (cget_iff hs).1 h⟩, fun _ => ⟨v, (mem_cput hs).2 (by simp)⟩⟩
  · constructor
    · rintro ⟨v', hv⟩
      have := (mem_cput hs).1 hv
      rw [if_neg e] at this
      exact ⟨v', this⟩
    · rintro ⟨v', hv⟩
      exact ⟨v', (mem_cput hs).2 (by rw [if_neg e]; exact hv)⟩
theorem cdel_cput {C : Cont} (hs : CSort C) (k v : Str) : cdel (cput C k v) k = cdel C k := by
  refine csort_ext (cs_del (cs_put hs k v) k) (cs_del hs k) fun x => ?_
  obtain ⟨k', v'⟩ := x
  rw [mem_cdel (cs_put hs k v), mem_cdel hs, mem_cput hs]
  constructor
  · rintro ⟨h1, h2⟩
    rw [if_neg h1] at h2
    exact ⟨h1, h2⟩
  · rintro ⟨h1, h2⟩
    rw [if_neg h1]
    exact ⟨h1, h2⟩
theorem cput_cdel {C : Cont} (hs : CSort C) {k u : Str} (h : cget C k = some u) : cput (cdel C k) k u = C := by
  refine csort_ext (cs_put (cs_del hs k) k u) hs fun x => ?_
  obtain ⟨k', v'⟩ := x
  rw [mem_cput (cs_del hs k), mem_cdel hs]
  by_cases e : k = k'
  · subst e
    rw [if_pos rfl]
    constructor
    · rintro rfl
      exact (cget_iff hs).1 h
    · intro hx
      have := (cget_iff hs).2 hx
      rw [h] at this
      injection this with this
      exact this.symm
  · rw [if_neg e]
    exact ⟨fun h => h.2, fun h => ⟨e, h⟩⟩
set_option maxRecDepth 100000 in
set_option maxHeartbeats 4000000 in
theorem backLaw_walk (s : Option Addr) (len cap : Nat) (rows : List (List Value)) (key : ByteArray) (w : World) (hr : IsFlat [.inl .u8, .inr false, .inr false, .inr true] w s len rows) (hk : key.size ≤ maxLen) :
    Calls Try.prog 5 #[.slice s len cap, .string key] w fun e w' => e = .returned (.bool true) ∧ Below w.heap.size w w' := by
  have hlen : len ≤ maxLen := by
    rcases hr with ⟨h0, _⟩ | ⟨_, _, _, h1, _⟩
    · rw [h0]; exact Nat.zero_le _
    · exact h1
  obtain ⟨L, rfl, hL, hsz⟩ := acts_of_flat hr
  clear hr
  have hGr := great12_any s cap L w hL hsz hlen
  unfold maxLen at hk hlen
  replace hL := Lib.hid hL
  replace hsz := Lib.hid hsz
  go_enter Try.func5, Try.ntmps5
  go_wp2_with fail
  refine hGr.mono ?_
  clear hGr
  rintro e w2 ⟨rfl | ⟨rfl, h150, hsm⟩, hb2⟩
  · have hAw := awake12_any w2
    replace hb2 := Lib.hid hb2
    go_wp2_with fail
    refine hAw.mono ?_
    clear hAw
    rintro e w3 ⟨rfl, hb3⟩
    have hb := Lib.hid (hb2.out.trans (hb3.mono hb2.out.size))
    clear hb3
    go_wp2_with fail
    go_ret
    exact ⟨rfl, hb.out⟩
  by_cases h60 : 500 < key.size
  · have hd : (500 : Int) < (key.size : Int) := by omega
    have hAw := awake12_any w2
    replace hb2 := Lib.hid hb2
    replace hsm := Lib.hid hsm
    go_wp2_with fail
    refine hAw.mono ?_
    clear hAw
    rintro e w3 ⟨rfl, hb3⟩
    have hb := Lib.hid (hb2.out.trans (hb3.mono hb2.out.size))
    clear hb3
    go_wp2_with fail
    go_ret
    exact ⟨by simp, hb.out⟩
  have hd : ¬ (500 : Int) < (key.size : Int) := by omega
  have hL2 := Lib.hid (hL.out.below hb2)
  have hk600 : Hid (key.size ≤ 600) := Lib.hid (by omega)
  replace hb2 := Lib.hid hb2
  replace hsm := Lib.hid hsm
  go_wp2_with fail
  refine (show Calls Try.prog 21 #[.int .i64 4096] w2 _ from arNewPool_some 4096 w2 (by omega) (by omega)).mono ?_
  rintro e w1 ⟨p, g, f, rfl, hB1, hp1, hg1, hf1, hP1⟩
  have hNw := ATx.new (w0 := w2) hB1 hP1 ⟨hp1, hg1, hf1⟩ (by omega)
  clear hP1 hB1
  go_wp2_with fail
  refine hNw.mono ?_
  clear hNw
  rintro e w3 ⟨t, rfl, hT3⟩
  have hPl := plays12_any hT3 s cap L hL2.out hsz.out hsm.out h150
  replace hT3 := Lib.hid hT3
  go_wp2_with fail
  refine hPl.mono ?_
  clear hPl
  rintro e w4 ⟨rfl, hT4⟩
  obtain ⟨C, hC⟩ : ∃ C, C = play12 4096 [] L := ⟨_, rfl⟩
  rw [← hC] at hT4
  have hcs := hT4.srt
  obtain ⟨hcl, hnl⟩ := hT4.len_le
  have hSl := hT4.slots
  obtain ⟨N, hN⟩ : ∃ N, N = nodesN C := ⟨_, rfl⟩
  rw [← hN] at hSl hnl
  replace hN := Lib.hid hN
  replace hnl := Lib.hid hnl
  replace hcs := Lib.hid hcs
  replace hT4 := Lib.hid hT4
  clear hC
  go_wp2_with fail
  refine hSl.mono ?_
  clear hSl
  rintro e w5 ⟨rfl, hb5⟩
  have hT5 := hT4.out.below hb5
  have hAl := hT5.all
  replace hb5 := Lib.hid hb5
  replace hT5 := Lib.hid hT5
  go_wp2_with fail
  refine hAl.mono ?_
  clear hAl
  rintro e w6 ⟨aa, ac, rfl, hra, hb6⟩
  have hT6 := hT5.out.zone hb6
  obtain ⟨Z, hZ⟩ : ∃ Z : Nat → Prop, Z = fun q => w5.heap.size ≤ q ∧ q < w6.heap.size := ⟨_, rfl⟩
  rw [← hZ] at hT6
  have hPu := hT6.put key ⟨#[110, 101, 119]⟩ hk600.out
  have hpc := Lib.hid fun W (hW : KeepZ Z w6 W) i x hx => pairs_keep hra (Z := Z) (by rw [hZ]; exact fun q h1 h2 => ⟨h1, h2⟩) W hW (i := i) (x := x) hx
  clear hZ
  obtain ⟨n, hn⟩ : ∃ n, n = C.length := ⟨_, rfl⟩
  rw [← hn] at hcl ⊢
  replace hn := Lib.hid hn
  replace hra := Lib.hid hra
  replace hb6 := Lib.hid hb6
  replace hT6 := Lib.hid hT6
  have hB6 : Below w.heap.size w w6 := hb2.out.trans (hT6.out.x.bel.mono hb2.out.size)
  replace hB6 := Lib.hid hB6
  have hAw := Lib.hid fun W => awake12_any W
  by_cases hroom : nodesN (cput C key ⟨#[110, 101, 119]⟩) ≤ 4096
  · unfold putV putC at hPu
    rw [if_pos hroom, if_pos hroom] at hPu
    obtain ⟨had, hhad⟩ : ∃ had, had = (cget C key).isSome := ⟨_, rfl⟩
    obtain ⟨old, hold⟩ : ∃ old, old = (cget C key).getD s0 := ⟨_, rfl⟩
    rw [← hhad, ← hold] at hPu
    replace hhad := Lib.hid hhad
    replace hold := Lib.hid hold
    replace hroom := Lib.hid hroom
    go_wp2_with fail
    refine hPu.mono ?_
    clear hPu
    rintro e w7 ⟨rfl, hT7, hK7⟩
    replace hT7 := Lib.hid hT7
    replace hK7 := Lib.hid hK7
    go_upto_if 64 with fail
    go_cut [] (fun wz => ATz w2 wz p t 4096 C Z ∧ KeepZ Z w6 wz)
    case first =>
      cases had with
      | true =>
        have hg : cget C key = some old := by
          have h1 := hhad.out
          have h2 := hold.out
          cases hc : cget C key with
          | none => rw [hc] at h1; cases h1
          | some v => rw [hc] at h2; rw [h2]; rfl
        have hS7 := hT7.out.x.slots
        rw [nodesN_put hcs.out hg, ← hN.out] at hS7
        have hLe := Lib.hid fun W (hW : Below w7.heap.size w7 W) => (hT7.out.x.below hW).length
        rw [cput_len hcs.out, hg] at hLe
        simp only [Option.isSome_some, if_true] at hLe
        rw [← hn.out] at hLe
        replace hg := Lib.hid hg
        go_wp2_with fail
        refine hS7.mono ?_
        clear hS7
        rintro e w8 ⟨rfl, hb8⟩
        have hL8 := hLe.out w8 hb8
        have hK8 := hK7.out.trans (hT7.out.keepB hb8)
        have hT8 := hT7.out.below hb8
        have hD8 := hT8.delete key hk600.out
        rw [cdel_cput hcs.out] at hD8
        replace hb8 := Lib.hid hb8
        replace hT8 := Lib.hid hT8
        replace hK8 := Lib.hid hK8
        replace hD8 := Lib.hid hD8
        clear hLe
        go_wp2_with fail
        refine hL8.mono ?_
        clear hL8
        rintro e w9 ⟨rfl, rfl⟩
        go_wp2_with fail
        refine hD8.out.mono ?_
        clear hD8
        rintro e w9 ⟨rfl, hT9, hK9⟩
        have hP9 := hT9.put key old hk600.out
        have hpc9 : putC (cdel C key) 4096 key old = C := by
          unfold putC
          rw [cput_cdel hcs.out hg.out, if_pos]
          have := hnl.out
          rw [hN.out] at this
          exact this
        rw [hpc9] at hP9
        obtain ⟨pv, hpv⟩ : ∃ pv, pv = putV (cdel C key) 4096 key old := ⟨_, rfl⟩
        rw [← hpv] at hP9
        clear hpv hpc9
        replace hT9 := Lib.hid hT9
        have hK9' := Lib.hid (hK8.out.trans hK9)
        clear hK9
        go_wp2_with fail
        refine hP9.mono ?_
        clear hP9
        rintro e w10 ⟨rfl, hT10, hK10⟩
        have hK10' := Lib.hid (hK9'.out.trans hK10)
        replace hT10 := Lib.hid hT10
        clear hK10
        go_wp2_with fail
        go_meet
        exact ⟨hT10.out, hK10'.out⟩
      | false =>
        have hg : cget C key = none := by
          have h1 := hhad.out
          cases hc : cget C key with
          | none => rfl
          | some v => rw [hc] at h1; cases h1
        have hD8 := hT7.out.delete key hk600.out
        rw [cdel_cput hcs.out, cdel_none hg hcs.out, cget_cput, if_pos rfl] at hD8
        simp only [Option.getD_some, Option.isSome_some] at hD8
        replace hg := Lib.hid hg
        go_wp2_with fail
        refine hD8.mono ?_
        clear hD8
        rintro e w9 ⟨rfl, hT9, hK9⟩
        have hK9' := Lib.hid (hK7.out.trans hK9)
        replace hT9 := Lib.hid hT9
        clear hK9
        go_wp2_with fail
        go_meet
        exact ⟨hT9.out, hK9'.out⟩
    case rest =>
      obtain ⟨hT9, hK9⟩ := hcut
      obtain ⟨wd, hwd⟩ : ∃ wd, wd = wc := ⟨_, rfl⟩
      rw [← hwd] at hT9 hK9 ⊢
      clear hwd
      have hA9 := hT9.x.all
      replace hT9 := Lib.hid hT9
      replace hK9 := Lib.hid hK9
      clear hT7 hK7
      go_wp2_with fail
      refine hA9.mono ?_
      clear hA9
      rintro e w10 ⟨ab, ad, rfl, hrb, hb10⟩
      have hT10 := hT9.out.x.below hb10
      have hpd := Lib.hid fun W (hW : Below w10.heap.size w10 W) i x hx => pair_cells (hrb.at'.below hW) (i := i) (x := x) hx
      have hpe := Lib.hid fun W (hW : Below w10.heap.size w10 W) i x hx => hpc.out W (hK9.out.trans (hT9.out.keepB (hb10.trans (hW.mono hb10.size)))) i x hx
      have hS10 := hT10.slots
      rw [← hN.out] at hS10
      have hLv := Lib.hid fun W (hW : Below w10.heap.size w10 W) => (hT10.below hW).live
      have hCh := Lib.hid fun W (hW : Below w10.heap.size w10 W) => (hT10.below hW).check
      rw [← hN.out] at hLv
      rw [← hn.out]
      have hbel := Lib.hid hT10.bel
      replace hb10 := Lib.hid hb10
      replace hT10 := Lib.hid hT10
      clear hrb
      go_wp2_with fail
      refine hS10.mono ?_
      clear hS10
      rintro e w11 ⟨rfl, hb11⟩
      have hL11 := hLv.out w11 hb11
      replace hb11 := Lib.hid hb11
      go_wp2_with fail
      refine hL11.mono ?_
      clear hL11
      rintro e w12 ⟨rfl, hb12⟩
      have hb12' := hb11.out.trans (hb12.mono hb11.out.size)
      have hC12 := hCh.out w12 hb12'
      replace hb12' := Lib.hid hb12'
      clear hb12
      go_wp2_with fail
      refine hC12.mono ?_
      clear hC12
      rintro e w13 ⟨rfl, hb13⟩
      have hb13' := Lib.hid (hb12'.out.trans (hb13.mono hb12'.out.size))
      clear hb13 hLv hCh
      go_wp2_with fail
      go_loopg [17] n (fun gk v wr => ∃ k : Nat, gk = n - k ∧ k ≤ n ∧ v = .int .i64 k ∧ Below w10.heap.size w10 wr)
      case atStart => exact ⟨0, rfl, Nat.zero_le _, rfl, hb13'.out⟩
      case round =>
        obtain ⟨k, rfl, hk2, rfl, hB⟩ := hrel
        by_cases hlt : k < n
        · obtain ⟨x, hx⟩ : ∃ x, C[k]? = some x := ⟨_, List.getElem?_eq_getElem (by have := hn.out; omega)⟩
          obtain ⟨b, o, rfl, hb1, hl1, hc1, k0, k1⟩ := hpd.out wr hB k x hx
          obtain ⟨b', rfl, _, hl1', hc1', j0, j1⟩ := hpe.out wr hB k x hx
          have hbw2 := block_lt_of_cell j0
          have hA2 : (k : Int) < (n : Int) := by omega
          have hA3 : (0 : Int) ≤ (k : Int) := by omega
          have hw1 : IntKind.i64.wrap ((k : Int) + 1) = (k : Int) + 1 := IntWalk.i64_in _ (by omega)
          have hl2 : n ≤ ad := by have := hn.out; omega
          have hl3 : n ≤ ac := by have := hn.out; omega
          obtain ⟨p1, q1⟩ := x
          simp only at k0 k1 j0 j1
          replace hl1 := Lib.hid hl1
          replace hl1' := Lib.hid hl1'
          replace hB := Lib.hid hB
          replace hx := Lib.hid hx
          go_upto_region 27 with fail
          go_cut [133] (fun v wx => v = .bool false ∧ Below wr.heap.size wr wx)
          case first =>
            go_quiet (fail)
            go_wp2_with fail
            go_meet
            exact ⟨by simp, below_drewN (Below.refl _ _) _⟩
          case rest =>
            obtain ⟨rfl, hb7⟩ := hcut
            have hB7 := Lib.hid (hB.out.trans (hb7.mono hB.out.size))
            clear hb7 k0 k1 j0 j1
            go_wp2_with fail
            go_roundg (n - (k + 1))
            case rel => exact ⟨k + 1, rfl, by omega, by go_num, hB7.out⟩
            case measure => omega
        · obtain rfl : k = n := by omega
          have hAw8 := hAw.out wr
          replace hB := Lib.hid hB
          go_wp2_with fail
          refine hAw8.mono ?_
          clear hAw8
          rintro e w9 ⟨rfl, hb9⟩
          have hB9 := Lib.hid (hb2.out.trans (((hbel.out.trans (hB.out.mono hbel.out.size)).trans (hb9.mono (hbel.out.trans (hB.out.mono hbel.out.size)).size)).mono hb2.out.size))
          clear hb9
          go_wp2_with fail
          go_ret
          exact ⟨rfl, hB9.out⟩
  · unfold putV putC at hPu
    rw [if_neg hroom, if_neg hroom] at hPu
    replace hroom := Lib.hid hroom
    go_wp2_with fail
    refine hPu.mono ?_
    clear hPu
    rintro e w7 ⟨rfl, hT7, _⟩
    replace hT7 := hT7.x
    have hS7 := hT7.slots
    rw [← hN.out] at hS7
    replace hT7 := Lib.hid hT7
    go_wp2_with fail
    refine hS7.mono ?_
    clear hS7
    rintro e w8 ⟨rfl, hb8⟩
    have hB8 := Lib.hid (hT7.out.bel.trans (hb8.mono hT7.out.bel.size))
    clear hb8
    have hAw8 := hAw.out w8
    go_wp2_with fail
    refine hAw8.mono ?_
    clear hAw8
    rintro e w9 ⟨rfl, hb9⟩
    have hB9 := Lib.hid (hb2.out.trans ((hB8.out.trans (hb9.mono hB8.out.size)).mono hb2.out.size))
    clear hb9
    go_wp2_with fail
    go_ret
    exact ⟨by simp, hB9.out⟩
end Go.Proofs.Ytmhlokomlngdmaa
