/- The walk of the law ArtReaders. -/
import Derived.Test.YtmhlokomlngdmaaArtRx
import Derived.Test.YtmhlokomlngdmaaArtTz
import Derived.Deep.CutBlock
import Derived.Deep.DeepCutAuto
namespace Go.Proofs.Ytmhlokomlngdmaa
open Go.RowKit
theorem cap_of {H : Type} {enc : TypeId × Value → H} {P : Program} {w : World} {base : Nat} {spare : Nat → Bool} {held : Bool} {fuel : Nat} {t e : TypeId} {a : Option Addr} {len cap : Nat} {x : DataW H × List MemPlace} (ht : P.underlying t = some (.slice e))
    (h : DataW.trod enc P w base spare held fuel t [.slice a len cap] = some x) : len ≤ cap ∧ cap ≤ maxLen := by
  rcases Deep.open_slice ht h with ⟨hcs, _⟩ | ⟨a', len', cap', m, n', D, Pl, hcs, hb, hl, hm, hmm, _, hx⟩
  · simp at hcs
    obtain ⟨rfl, rfl, rfl⟩ := hcs
    unfold maxLen
    omega
  · simp at hcs
    obtain ⟨rfl, rfl, rfl⟩ := hcs
    exact ⟨hl, hm⟩
def RdI (w3 : World) (V : VP) (m : Nat) (w : World) : Prop := ∃ T C n d, LVI w3 V w T C n d ∧ d ≤ n ∧ n ≤ m
theorem RdI.mono {w3 w : World} {V : VP} {m m' : Nat} (h : RdI w3 V m w) (hm : m ≤ m') : RdI w3 V m' w := by
  obtain ⟨T, C, n, d, h1, h2, h3⟩ := h
  exact ⟨T, C, n, d, h1, h2, Nat.le_trans h3 hm⟩
theorem RdI.next {w3 w : World} {V : VP} {m : Nat} (hP : VPok w3 V) (h : RdI w3 V m w) (hm : m ≤ 1000000000000000) (key : Str) (after : Bool) :
    Calls Try.prog 13 #[.pointer (some ⟨V.t, 0, none⟩), .string key, .bool after, .func (.func 15) #[] (visV V)] w fun e w' => (∃ k x ok again, e = .returned (.tuple #[.string k, .string x, .bool ok, .bool again])) ∧ RdI w3 V (m + 120000000000) w' := by
  obtain ⟨T, C, n, d, h1, h2, h3⟩ := h
  refine (vis_next hP h1 h2 key after (Nat.le_trans h3 hm)).mono ?_
  rintro e w' ⟨k, x, ok, again, T', C', n', d', he, hI, hd, _, hn⟩
  exact ⟨⟨k, x, ok, again, he⟩, T', C', n', d', hI, hd, by omega⟩
theorem step_fact (k : Nat) : (k + 2) * 120000000000 + 120000000000 ≤ (k + 1 + 2) * 120000000000 := by
  generalize hX : 120000000000 = X
  have : (k + 1 + 2) * X = (k + 2) * X + 1 * X := by rw [← Nat.add_mul]
  rw [this, Nat.one_mul]
  exact Nat.le_refl _
set_option maxRecDepth 100000 in
set_option maxHeartbeats 8000000 in
theorem readersLaw_walk (s1 : Option Addr) (len1 cap1 : Nat) (rows1 : List (List Value)) (s2 : Option Addr) (len2 cap2 : Nat) (rows2 : List (List Value)) (key : ByteArray) (after : Bool) (w : World)
    (hr1 : IsFlat [.inl .u8, .inr false, .inr false, .inr true] w s1 len1 rows1) (hc1 : len1 ≤ cap1 ∧ cap1 ≤ maxLen) (hr2 : IsFlat [.inl .u8, .inr false, .inr false, .inr true] w s2 len2 rows2) (hc2 : len2 ≤ cap2 ∧ cap2 ≤ maxLen) (hk : key.size ≤ maxLen) :
    Calls Try.prog 4 #[.slice s1 len1 cap1, .slice s2 len2 cap2, .string key, .bool after] w fun e w' => e = .returned (.bool true) ∧ Below w.heap.size w w' := by
  obtain ⟨L1, rfl, hL1, hz1⟩ := acts_of_flat hr1
  obtain ⟨L2, rfl, hL2, hz2⟩ := acts_of_flat hr2
  clear hr1 hr2
  have hlen1 : L1.length ≤ maxLen := Nat.le_trans hc1.1 hc1.2
  have hlen2 : L2.length ≤ maxLen := Nat.le_trans hc2.1 hc2.2
  have hm2 : L2.length ≤ 9223372036854775807 := by unfold maxLen at hlen2; omega
  obtain ⟨w1, hw1⟩ : ∃ w1, w1 = w.alloc (.cells #[.slice s2 L2.length cap2] 22) := ⟨_, rfl⟩
  have hb1 : Below w.heap.size w w1 := by rw [hw1]; exact (Below.refl _ _).alloc (Nat.le_refl _) _
  have hbb : w1.heap[w.heap.size]? = some (.cells #[.slice s2 L2.length cap2] 22) := by rw [hw1]; exact heap_alloc_new _ _
  have hGr := great12_any s1 cap1 L1 w1 (hL1.below hb1) hz1 hlen1
  have hGs := Lib.hid fun W (hW : Below w.heap.size w W) => great12_any s2 cap2 L2 W (hL2.below hW) hz2 hlen2
  have hAw := Lib.hid fun W => awake12_any W
  obtain ⟨n2, hn2⟩ : ∃ n2, n2 = L2.length := ⟨_, rfl⟩
  obtain ⟨n1, hn1⟩ : ∃ n1, n1 = L1.length := ⟨_, rfl⟩
  have hb2c : w1.cell? ⟨w.heap.size, 0, none⟩ = some (.slice s2 n2 cap2) := by rw [cell_of_heap hbb, hn2]; rfl
  have hbl := heap_lt hbb
  rw [← hn1] at hGr ⊢
  rw [← hn2] at hGs hw1 ⊢
  have hm2' : n2 ≤ 9223372036854775807 := by omega
  unfold maxLen at hk
  replace hw1 := Lib.hid hw1
  replace hb1 := Lib.hid hb1
  replace hbb := Lib.hid hbb
  replace hL1 := Lib.hid hL1
  replace hL2 := Lib.hid hL2
  replace hz1 := Lib.hid hz1
  replace hz2 := Lib.hid hz2
  replace hn1 := Lib.hid hn1
  replace hn2 := Lib.hid hn2
  replace hc1 := Lib.hid hc1
  replace hc2 := Lib.hid hc2
  clear hlen1 hlen2 hm2
  go_enter Try.func4, Try.ntmps4
  go_upto_region 1 with fail
  rw [← hw1.out]
  go_cut [40] (fun v wz => Below w1.heap.size w1 wz ∧ (v = .bool true ∨ v = .bool false ∧ n1 ≤ 150 ∧ Small L1 ∧ n2 ≤ 40 ∧ Small L2 ∧ key.size ≤ 60))
  case first =>
    go_wp2_with fail
    refine hGr.mono ?_
    clear hGr
    rintro e w2 ⟨rfl | ⟨rfl, h150, hsm⟩, hb2⟩
    · replace hb2 := Lib.hid hb2
      go_wp2_with fail
      go_meet
      exact ⟨hb2.out, .inl (by simp)⟩
    have hGr := hGs.out w2 (hb1.out.trans (hb2.mono hb1.out.size))
    have hb3 := keep hb2 hb2c
    have hbl2 := Nat.lt_of_lt_of_le hbl hb2.size
    replace hb2 := Lib.hid hb2
    replace hsm := Lib.hid hsm
    go_wp2_with fail
    refine hGr.mono ?_
    clear hGr
    rintro e w3 ⟨rfl | ⟨rfl, _, hsm2⟩, hbx⟩
    · replace hbx := Lib.hid (hb2.out.trans (hbx.mono hb2.out.size))
      clear hb3 hbl2
      go_wp2_with fail
      go_meet
      exact ⟨hbx.out, .inl (by simp)⟩
    have hb4 := keep hbx hb3
    have hbl3 := Nat.lt_of_lt_of_le hbl2 hbx.size
    replace hbx := Lib.hid (hb2.out.trans (hbx.mono hb2.out.size))
    replace hsm2 := Lib.hid hsm2
    clear hb3 hbl2
    by_cases h40 : 40 < n2
    · have hd : (40 : Int) < (n2 : Int) := by omega
      go_wp2_with fail
      go_meet
      exact ⟨hbx.out, .inl (by simp)⟩
    have hd : ¬ (40 : Int) < (n2 : Int) := by omega
    by_cases h60 : 60 < key.size
    · have hd2 : (60 : Int) < (key.size : Int) := by omega
      go_wp2_with fail
      go_meet
      exact ⟨hbx.out, .inl (by simp)⟩
    have hd2 : ¬ (60 : Int) < (key.size : Int) := by omega
    go_wp2_with fail
    go_meet
    exact ⟨hbx.out, .inr ⟨by simp; omega, h150, hsm.out, by omega, hsm2.out, by omega⟩⟩
  case rest =>
    obtain ⟨hb2, hv⟩ := hcut
    obtain ⟨w3, hwe⟩ : ∃ w3, w3 = wc := ⟨_, rfl⟩
    rw [← hwe] at hb2 ⊢
    clear hwe hGr hGs
    rcases hv with rfl | ⟨rfl, h150, hsm, h40, hsm2, h60⟩
    · have hAw := hAw.out w3
      replace hb2 := Lib.hid hb2
      go_wp2_with fail
      refine hAw.mono ?_
      clear hAw
      rintro e w4 ⟨rfl, hb3⟩
      have hb := Lib.hid (hb1.out.trans ((hb2.out.trans (hb3.mono hb2.out.size)).mono hb1.out.size))
      clear hb3
      go_wp2_with fail
      go_ret
      exact ⟨rfl, hb.out⟩
    have hRm := room12_any w3
    have hbb3 := Lib.hid (Below.heap' hb2 hbb.out)
    have hB3 := Lib.hid (hb1.out.trans (hb2.mono hb1.out.size))
    have hA1 := Lib.hid (hL1.out.below hB3.out)
    have hA2 := Lib.hid (hL2.out.below hB3.out)
    replace hsm := Lib.hid hsm
    replace hsm2 := Lib.hid hsm2
    clear hb2c hbl hb1 hbb hL1 hL2 hb2
    go_wp2_with fail
    refine hRm.mono ?_
    clear hRm
    rintro e w4 ⟨p, t, rfl, hT4⟩
    obtain ⟨T, hT4, ht, hp, hi, hD, hf⟩ := hT4
    -- the tree's box
    obtain ⟨w5, hw5⟩ : ∃ w5, w5 = w4.alloc (.cells #[.pointer (some ⟨t, 0, none⟩)] 25) := ⟨_, rfl⟩
    have hb5 : Below w4.heap.size w4 w5 := by rw [hw5]; exact (Below.refl _ _).alloc (Nat.le_refl _) _
    have htb : w5.heap[w4.heap.size]? = some (.cells #[.pointer (some ⟨t, 0, none⟩)] 25) := by rw [hw5]; exact heap_alloc_new _ _
    have hT5 := hT4.below hb5
    have hPl := PJ.plays hT5 hi hD s1 cap1 L1 hA1.out hz1.out hsm.out (by rw [← hn1.out]; exact h150)
    rw [ht, ← hn1.out] at hPl
    have hrT : T.ρ w4.heap.size = 0 := hT4.am.bw.ro.far _ (Nat.le_refl _)
    have h34 : w3.heap.size ≤ w4.heap.size := hT4.am.bw.ro.bel.size
    have c0 : w5.cell? ⟨w4.heap.size, 0, none⟩ = some (.pointer (some ⟨t, 0, none⟩)) := by rw [cell_of_heap htb]; rfl
    have q0 := heap_lt htb
    replace htb := Lib.hid htb
    replace hT4 := Lib.hid hT4
    replace hT5 := Lib.hid hT5
    replace hb5 := Lib.hid hb5
    replace hw5 := Lib.hid hw5
    go_upto_region 6 with fail
    rw [← hw5.out]
    go_wp2_with fail
    refine hPl.mono ?_
    clear hPl
    rintro e w6 ⟨rfl, T1, hT6, hev⟩
    obtain ⟨htb6, hrb6⟩ := hev.keep htb.out hrT
    obtain ⟨w7, hw7⟩ : ∃ w7, w7 = (w6.alloc (.cells #[.int .i64 0] 3)).alloc (.cells #[.int .i64 0] 3) := ⟨_, rfl⟩
    obtain ⟨hx7, hy7⟩ := heap_two w6 (.cells #[.int .i64 0] 3) (.cells #[.int .i64 0] 3)
    have hb7 := below_two w6 (.cells #[.int .i64 0] 3) (.cells #[.int .i64 0] 3)
    rw [← hw7] at hx7 hy7 hb7
    have h36 : w3.heap.size ≤ w6.heap.size := hT6.am.bw.ro.bel.size
    have hlo := heap_lt hbb3.out
    obtain ⟨V, hV⟩ : ∃ V : VP, V = ⟨p, t, T1.r, T1.d.A.a, 4096, w6.heap.size, w6.heap.size + 1, w4.heap.size, w.heap.size, s2, cap2, L2⟩ := ⟨_, rfl⟩
    have hP : VPok w3 V := by
      rw [hV]
      exact ⟨hA2.out, hz2.out, hsm2.out, by rw [← hn2.out]; exact h40, by have := hc2.out.2; unfold maxLen at this; exact this, hc2.out.1, ⟨h36, by show _ ≤ w6.heap.size + 1; omega⟩, ⟨h34, hlo⟩, by show w6.heap.size ≠ w6.heap.size + 1; omega⟩
    have hI : LVI w3 V w7 T1 (play12 T.free.length [] L1) 0 0 := by
      rw [hV]
      exact ⟨hT6.below hb7, hev.t.trans ht, by rw [hev.P]; exact hp, rfl, rfl, hev.i.trans hi, hev.dl.trans hD, hev.fl.trans hf, hx7, hy7, Below.heap' hb7 htb6, Below.heap' hb7 (Below.heap' hT6.am.bw.ro.bel hbb3.out), ⟨hT6.am.bw.ro.far _ (Nat.le_refl _), hT6.am.bw.ro.far _ (by show _ ≤ w6.heap.size + 1; omega), hrb6, hT6.am.bw.ro.old _ hlo⟩⟩
    have hVal := value12_any hI.tr key
    rw [hI.ht] at hVal
    have hvis : visV V = #[.pointer (some ⟨w6.heap.size, 0, none⟩), .pointer (some ⟨w.heap.size, 0, none⟩), .pointer (some ⟨w4.heap.size, 0, none⟩), .pointer (some ⟨w6.heap.size + 1, 0, none⟩)] := by rw [hV]; rfl
    have e1 : V.t = t := by rw [hV]
    have e2 : V.NB = w6.heap.size := by rw [hV]
    have e3 : V.DB = w6.heap.size + 1 := by rw [hV]
    have e4 : V.TB = w4.heap.size := by rw [hV]
    have e5 : V.bB = w.heap.size := by rw [hV]
    have e6 : V.bs = s2 := by rw [hV]
    have e7 : V.bc = cap2 := by rw [hV]
    have e8 : V.B.length = n2 := by rw [hV]; exact hn2.out.symm
    have e9 : V.p = p := by rw [hV]
    have e10 : V.c0 = 4096 := by rw [hV]
    clear hV
    have hcell : Hid (∀ W T C n d, LVI w3 V W T C n d → W.cell? ⟨w4.heap.size, 0, none⟩ = some (.pointer (some ⟨t, 0, none⟩)) ∧ W.cell? ⟨w6.heap.size, 0, none⟩ = some (.int .i64 n) ∧ W.cell? ⟨w6.heap.size + 1, 0, none⟩ = some (.int .i64 d) ∧ W.cell? ⟨w.heap.size, 0, none⟩ = some (.slice s2 n2 cap2) ∧ w4.heap.size < W.heap.size ∧ w6.heap.size < W.heap.size ∧ w6.heap.size + 1 < W.heap.size ∧ w.heap.size < W.heap.size) := Lib.hid fun W T C n d h => by
      have q1 := h.tb
      have q2 := h.nb
      have q3 := h.db
      have q4 := h.bb
      rw [e4, e1] at q1
      rw [e2] at q2
      rw [e3] at q3
      rw [e5, e6, e7, e8] at q4
      exact ⟨by rw [cell_of_heap q1]; rfl, by rw [cell_of_heap q2]; rfl, by rw [cell_of_heap q3]; rfl, by rw [cell_of_heap q4]; rfl, heap_lt q1, heap_lt q2, heap_lt q3, heap_lt q4⟩
    have hGt := Lib.hid fun W (hW : Below w7.heap.size w7 W) => vis_get hP (hI.below hW) (Nat.le_refl _) key (by unfold big; omega) (by omega)
    rw [hvis, e1] at hGt
    rw [e1] at hVal
    obtain ⟨x0, x1, x2, x3, x4, x5, x6, x7⟩ := hcell.out _ _ _ _ _ hI
    obtain ⟨C0, hC0⟩ : ∃ C0, C0 = play12 T.free.length [] L1 := ⟨_, rfl⟩
    rw [← hC0] at hI hVal hGt
    have hB7 : Below w.heap.size w w7 := hB3.out.trans (hI.tr.am.bw.ro.bel.mono hB3.out.size)
    replace hB7 := Lib.hid hB7
    replace hI := Lib.hid hI
    replace hP := Lib.hid hP
    replace hw7 := Lib.hid hw7
    replace hvis := Lib.hid hvis
    replace hev := Lib.hid hev
    replace hT6 := Lib.hid hT6
    clear hx7 hy7 hb7 htb6 hrb6 c0 q0
    obtain ⟨gv, hgv⟩ : ∃ gv, gv = (cget C0 key).getD s0 := ⟨_, rfl⟩
    obtain ⟨gs, hgs⟩ : ∃ gs, gs = (cget C0 key).isSome := ⟨_, rfl⟩
    rw [← hgv, ← hgs] at hVal
    unfold VGetEnd at hGt
    rw [← hgv, ← hgs] at hGt
    replace hgv := Lib.hid hgv
    replace hgs := Lib.hid hgs
    replace hC0 := Lib.hid hC0
    go_upto_region 10 with fail
    rw [← hw7.out]
    go_wp2_with fail
    refine hVal.mono ?_
    clear hVal
    rintro e w8 ⟨rfl, hb8⟩
    have x0' := keep hb8 x0
    have x4' := Nat.lt_of_lt_of_le x4 hb8.size
    have hGt := hGt.out w8 hb8
    replace hb8 := Lib.hid hb8
    clear x0 x1 x2 x3 x4 x5 x6 x7
    go_wp2_with fail
    refine hGt.mono ?_
    clear hGt
    rintro e w9 ⟨v, found, again, T9, C9, n9, d9, rfl, hI9, hd9, hn9, hm9, hdd, hex⟩
    obtain ⟨x0, x1, x2, x3, x4, x5, x6, x7⟩ := hcell.out _ _ _ _ _ hI9
    have hnz : ¬ (n9 : Int) = 0 := by omega
    have hR9 : RdI w3 V 1000 w9 := ⟨T9, C9, n9, d9, hI9, hd9, by omega⟩
    have hNx := hR9.next hP.out (by omega) key after
    rw [e1, hvis.out] at hNx
    replace hNx := Lib.hid hNx
    replace hR9 := Lib.hid hR9
    replace hI9 := Lib.hid hI9
    clear x0' x4'
    go_upto_region 12 with fail
    go_cut [85] (fun v wz => v = .bool false ∧ wz = w9)
    case first =>
      by_cases hz : d9 = 0
      · obtain ⟨rfl, rfl, rfl⟩ := hex hz
        have hz2 : (d9 : Int) = 0 := by omega
        go_wp2_with fail
        go_meet
        exact ⟨by simp; omega, rfl⟩
      · have hz2 : ¬ (d9 : Int) = 0 := by omega
        go_wp2_with fail
        go_meet
        exact ⟨by simp; omega, rfl⟩
    case rest =>
      obtain ⟨rfl, hwe⟩ := hcut
      rw [hwe]
      clear hwe
      replace hNx := hNx.out
      clear hex
      go_wp2_with fail
      refine hNx.mono ?_
      clear hNx
      rintro e w10 ⟨⟨k', x', ok', again', rfl⟩, hR10⟩
      replace hR10 := Lib.hid hR10
      clear x0 x1 x2 x3 x4 x5 x6 x7
      go_upto_block 0 with fail
      go_cut [19] (fun _ wz => RdI w3 V 1000000000000000 wz)
      case first =>
        go_wp2_with fail
        go_loopg [19] 5000 (fun gk v19 wr => ∃ k : Nat, gk = 5000 - k ∧ k ≤ 5000 ∧ v19 = .int .i64 k ∧ RdI w3 V ((k + 2) * 120000000000) wr)
        case atStart => exact ⟨0, rfl, Nat.zero_le _, rfl, hR10.out.mono (by omega)⟩
        case round =>
          clear hR10
          obtain ⟨k, rfl, hk5, rfl, hR⟩ := hrel
          obtain ⟨T2, C2, n', d', hI2, hd2, hn'⟩ := id hR
          obtain ⟨x0, x1, x2, x3, x4, x5, x6, x7⟩ := hcell.out _ _ _ _ _ hI2
          have hM : (k + 2) * 120000000000 ≤ 1000000000000000 := by omega
          by_cases hlt : k < 5000
          · have hA2 : (k : Int) < 5000 := by omega
            have hw1 : IntKind.i64.wrap ((k : Int) + 1) = (k : Int) + 1 := IntWalk.i64_in _ (by omega)
            by_cases hnl : n' < n2
            · have hnl2 : (n' : Int) < (n2 : Int) := by omega
              have hNx := hR.next hP.out hM ⟨#[]⟩ false
              rw [e1, hvis.out] at hNx
              replace hR := Lib.hid hR
              replace hI2 := Lib.hid hI2
              go_wp2_with fail
              refine hNx.mono ?_
              clear hNx
              rintro e w11 ⟨⟨k', x', ok', again', rfl⟩, hR11⟩
              replace hR11 := Lib.hid (RdI.mono (m' := (k + 1 + 2) * 120000000000) hR11 (step_fact k))
              clear x0 x1 x2 x3 x4 x5 x6 x7
              go_wp2_with fail
              go_roundg (5000 - (k + 1))
              case rel => exact ⟨k + 1, rfl, by omega, by go_num, hR11.out⟩
              case measure => omega
            · have hnl2 : ¬ (n' : Int) < (n2 : Int) := by omega
              replace hR := Lib.hid hR
              replace hI2 := Lib.hid hI2
              go_wp2_with fail
              go_meet
              exact hR.out.mono hM
          · have hA2 : ¬ (k : Int) < 5000 := by omega
            replace hR := Lib.hid hR
            replace hI2 := Lib.hid hI2
            go_wp2_with fail
            go_meet
            exact hR.out.mono hM
      case rest =>
        obtain ⟨wd, hwd⟩ : ∃ wd, wd = wc := ⟨_, rfl⟩
        rw [← hwd] at hcut ⊢
        clear hwd
        obtain ⟨T2, C2, n', d', hI2, hd2, hn'⟩ := hcut
        obtain ⟨x0, _, _, _, x4, _, _, _⟩ := hcell.out _ _ _ _ _ hI2
        have hX : ATx w3 wd p t 4096 C2 := ⟨T2, hI2.tr, hI2.ht.trans e1, hI2.hp.trans e9, hI2.hi, hI2.hD, hI2.hf.trans e10⟩
        have hAl := hX.all
        have hX2k : ∀ x : Str × Str, x ∈ C2 → x.1.size ≤ 600 := fun x hx => by
          obtain ⟨y, hy, hp, _⟩ := (hI2.tr.ct.mem x.1 x.2).1 hx
          have := hI2.tr.lim y hy
          rw [hp, bl_size] at this
          exact this
        have hcs := hX.srt
        have hcl := hX.len_le.1
        replace hcs := Lib.hid hcs
        replace hX := Lib.hid hX
        clear hI2 hcell hvis hI9 hI
        go_wp2_with fail
        refine hAl.mono ?_
        clear hAl
        rintro e w12 ⟨aa, ac, rfl, hra, hb12⟩
        have hX2 : ATx w3 w12 p t 4096 C2 := ATx.below hX.out hb12
        have x0' := keep hb12 x0
        have x4' := Nat.lt_of_lt_of_le x4 hb12.size
        have hpc := Lib.hid fun W (hW : Below w12.heap.size w12 W) i x hx => pair_cellsR (hra.at'.below hW) (i := i) (x := x) hx
        obtain ⟨n, hn⟩ : ∃ n, n = C2.length := ⟨_, rfl⟩
        rw [← hn] at hcl ⊢
        have hGk : Hid (∀ (W : World) (k : Nat) (x : Str × Str), Below w12.heap.size w12 W → C2[k]? = some x → Calls Try.prog 17 #[.pointer (some ⟨t, 0, none⟩), .string x.1, .nilFunc] W fun e w' => e = .returned (.tuple #[.string x.2, .bool true, .bool false]) ∧ Below W.heap.size W w') := Lib.hid fun W k x hW hx => by
          have h1 := ATx.get (ATx.below hX2 hW) x.1 (Nat.le_trans (hX2k x (List.mem_of_getElem? hx)) (by unfold big; omega))
          rw [cget_at hcs.out hx] at h1
          exact h1
        replace hn := Lib.hid hn
        replace hb12 := Lib.hid hb12
        replace hX2 := Lib.hid hX2
        clear hra x0 x4
        go_wp2_with fail
        go_loopg [21] n (fun gk v21 wr => ∃ k : Nat, gk = n - k ∧ k ≤ n ∧ v21 = .int .i64 k ∧ Below w12.heap.size w12 wr)
        case atStart => exact ⟨0, rfl, Nat.zero_le _, rfl, Below.refl _ _⟩
        case round =>
          obtain ⟨k, rfl, hk2, rfl, hB⟩ := hrel
          have y0 := keep hB x0'
          have y4 := Nat.lt_of_lt_of_le x4' hB.size
          by_cases hlt : k < n
          · obtain ⟨x, hx⟩ : ∃ x, C2[k]? = some x := ⟨_, List.getElem?_eq_getElem (by have := hn.out; omega)⟩
            obtain ⟨b, o, rfl, hb1, hl1, hc1', k0, k1⟩ := hpc.out wr hB k x hx
            have hGx := Lib.hid fun W (hW : Below wr.heap.size wr W) => hGk.out W k x (hB.trans (hW.mono hB.size)) hx
            obtain ⟨p1, q1⟩ := x
            simp only at k0 k1 hGx
            have hA2 : (k : Int) < (n : Int) := by omega
            have hA3 : (0 : Int) ≤ (k : Int) := by omega
            have hw1 : IntKind.i64.wrap ((k : Int) + 1) = (k : Int) + 1 := IntWalk.i64_in _ (by omega)
            have hl2 : n ≤ ac := by have := hn.out; omega
            replace hl1 := Lib.hid hl1
            replace hB := Lib.hid hB
            replace hx := Lib.hid hx
            go_upto_region 23 with fail
            go_region_held3 (fun W' => W'.cell? ⟨b, o + k * 2, none⟩ = some (.string p1) ∧ W'.cell? ⟨b, o + k * 2 + 1, none⟩ = some (.string q1) ∧ W'.cell? ⟨w4.heap.size, 0, none⟩ = some (.pointer (some ⟨t, 0, none⟩))) (first | exact ⟨k0, k1, y0⟩ | exact ⟨i0, i1, i2⟩ | go_keep) (first
              | (go_at_call 17; refine (hGx.out _ (Below.refl _ _).drew).mono ?_; rintro z w13 ⟨rfl, hb13⟩; have hb3 : Below wr.heap.size wr w13 := bel_dr (k := 1) hb13; have i0 := keep hb3 k0; have i1 := keep hb3 k1; have i2 := keep hb3 y0; have j1 := Nat.lt_of_lt_of_le hb1 hb3.size; replace hb3 := Lib.hid hb3; replace hb13 := Lib.hid hb13))
            all_goals
              have hB13 := Lib.hid (hB.out.trans (hb3.out.mono hB.out.size))
              go_wp2_with fail
              go_roundg (n - (k + 1))
              case rel => exact ⟨k + 1, rfl, by omega, by go_num, hB13.out⟩
              case measure => omega
          · obtain rfl : k = n := by omega
            have hXr : ATx w3 wr p t 4096 C2 := ATx.below hX2.out hB
            have hCk := Lib.hid fun W (hW : Below wr.heap.size wr W) => (ATx.below hXr hW).check
            have hLv := Lib.hid fun W (hW : Below wr.heap.size wr W) => (ATx.below hXr hW).live
            have hSl := Lib.hid fun W (hW : Below wr.heap.size wr W) => (ATx.below hXr hW).slots
            have hBr := Lib.hid (hB3.out.trans (hXr.bel.mono hB3.out.size))
            obtain ⟨nn, hnn⟩ : ∃ nn, nn = nodesN C2 := ⟨_, rfl⟩
            rw [← hnn] at hLv hSl
            replace hXr := Lib.hid hXr
            replace hB := Lib.hid hB
            clear hpc hGk x0' x4'
            go_upto_region 26 with fail
            go_region_held3 (fun W' => W'.cell? ⟨w4.heap.size, 0, none⟩ = some (.pointer (some ⟨t, 0, none⟩)) ∧ Below wr.heap.size wr W') (first | exact ⟨y0, drew_bel _⟩ | exact ⟨i1, j1⟩ | exact ⟨i2, j2⟩ | exact ⟨i3, j3⟩ | exact ⟨i4, j4⟩ | go_keep) (first
              | (go_at_call 18; refine (hCk.out _ (drew_bel _)).mono ?_; rintro z w13 ⟨rfl, hb13⟩; have j1 : Below wr.heap.size wr w13 := bel_dr (k := 1) hb13; have i1 := keep j1 y0)
              | (go_at_call 19; refine (hLv.out _ j1).mono ?_; rintro z w14 ⟨rfl, hb14⟩; have j2 : Below wr.heap.size wr w14 := j1.trans (hb14.mono j1.size); have i2 := keep j2 y0)
              | (go_at_call 20; refine (hSl.out _ j2).mono ?_; rintro z w15 ⟨rfl, hb15⟩; have j3 : Below wr.heap.size wr w15 := j2.trans (hb15.mono j2.size); have i3 := keep j3 y0)
              | (go_at_call 9; refine (hAw.out _).mono ?_; rintro z w16 ⟨rfl, hb16⟩; have j4 : Below wr.heap.size wr w16 := j3.trans (hb16.mono j3.size); have i4 := keep j4 y0))
            all_goals
              have hB16 := Lib.hid (hBr.out.trans (j4.mono hBr.out.size))
              go_wp2_with fail
              go_ret
              exact ⟨by simp, hB16.out⟩
end Go.Proofs.Ytmhlokomlngdmaa
