/- The walk of the law RootApart: for any first directory and any numbers it returns true. -/
import Derived.Test.YtmmnheobpbmniaaRootLazy
import Derived.RegionTactic
namespace Go.Proofs.Ytmmnheobpbmniaa
open Go.RowKit
set_option maxRecDepth 100000 in
set_option maxHeartbeats 4000000 in
theorem apartLaw_walk (a : Int) (s : Option Addr) (len cap : Nat) (rows : List (List Value)) (w : World) (ha : (Lit.int .u8 a).wf = true) (hr : IsFlat [.inl .u8] w s len rows) :
    Calls Try.prog 3 #[.int .u8 a, .slice s len cap] w fun e w' => e = .returned (.bool true) ∧ Below w.heap.size w w' := by
  have hab : 0 ≤ a ∧ a ≤ 255 := by
    simp [Lit.wf, IntKind.min, IntKind.max, IntKind.signed, IntKind.bits] at ha
    omega
  clear ha
  have HAB := Lib.hid hab
  obtain ⟨a0, a1⟩ := hab
  have hro := Lib.hid (byte_row hr)
  clear hr
  obtain ⟨q, hq, hq4⟩ : ∃ q : Nat, a % 4 = q ∧ q < 4 := ⟨(a % 4).toNat, by omega, by omega⟩
  have HQ := Lib.hid hq
  clear hq
  have hmf : ∀ (fn : Fn) (first cap : Array Value) (w : World), (Instr.makeFunc fn first cap).run Try.prog w = .ok (.func fn first cap) w := fun _ _ _ _ => rfl
  have HF0 := Lib.hid (heap_alloc_new w (.cells #[.int .u8 a] 5))
  have HB0 := Lib.hid ((Below.refl w.heap.size w).alloc (Nat.le_refl _) (.cells #[.int .u8 a] 5))
  obtain ⟨fb, hfb⟩ : ∃ fb, w.heap.size = fb := ⟨_, rfl⟩
  go_enter Try.func3, Try.ntmps3
  go_wp2_with fail
  generalize w.alloc (.cells #[.int .u8 a] 5) = w0 at *
  refine (awake19_any _).mono ?_
  rintro e w1 ⟨rfl, hb1⟩
  have HB1 := Lib.hid (HB0.out.trans (hb1.mono HB0.out.size))
  have HF1 := Lib.hid (Below.heap' hb1 HF0.out)
  clear hb1 HB0 HF0
  by_cases hl : 300 < len
  · go_wp2_with fail
    go_ret
    exact ⟨rfl, HB1.out⟩
  go_wp2_with fail
  refine (dirs_any _).mono ?_
  rintro e w2 ⟨d0, d1, d2, d3, k0, k1, rfl, _, _, _, hb2⟩
  have HB2 := Lib.hid (HB1.out.trans (hb2.mono HB1.out.size))
  have HF2 := Lib.hid (Below.heap' hb2 HF1.out)
  clear hb2 HB1 HF1
  have hb3 := (Below.refl w2.heap.size w2).alloc (Nat.le_refl _) (.cells #[.pointer (some ⟨d0, 0, none⟩), .pointer (some ⟨d1, 0, none⟩), .pointer (some ⟨d2, 0, none⟩), .pointer (some ⟨d3, 0, none⟩)] 25)
  have hl3 := heap_alloc_new w2 (.cells #[.pointer (some ⟨d0, 0, none⟩), .pointer (some ⟨d1, 0, none⟩), .pointer (some ⟨d2, 0, none⟩), .pointer (some ⟨d3, 0, none⟩)] 25)
  have hb4 := hb3.alloc (by simp) (.cells #[.int .i64 0] 3)
  have hl4 := heap_alloc_old (.cells #[.int .i64 0] 3) hl3
  have ha4 := heap_alloc_new (w2.alloc (.cells #[.pointer (some ⟨d0, 0, none⟩), .pointer (some ⟨d1, 0, none⟩), .pointer (some ⟨d2, 0, none⟩), .pointer (some ⟨d3, 0, none⟩)] 25)) (.cells #[.int .i64 0] 3)
  have hlf : fb < w2.heap.size := by rw [← hfb]; exact heap_lt HF2.out
  have HP4 := Lib.hid (show PreB 0 (w2.heap.size + 1) w2.heap.size fb (some ⟨d0, 0, none⟩) (some ⟨d1, 0, none⟩) (some ⟨d2, 0, none⟩) (some ⟨d3, 0, none⟩) a ((w2.alloc (.cells #[.pointer (some ⟨d0, 0, none⟩), .pointer (some ⟨d1, 0, none⟩), .pointer (some ⟨d2, 0, none⟩), .pointer (some ⟨d3, 0, none⟩)] 25)).alloc (.cells #[.int .i64 0] 3)) from by
    refine ⟨by simpa using ha4, hl4, ?_⟩
    rw [← hfb]
    exact Below.heap' hb4 HF2.out)
  have HB4 := Lib.hid (HB2.out.trans (hb4.mono HB2.out.size))
  have hsz2 : w.heap.size ≤ w2.heap.size := HB2.out.size
  replace hfb := Lib.hid hfb
  clear hb3 hl3 hb4 hl4 ha4 HB2 HF2
  go_wp2_with fail
  generalize (w2.alloc (.cells #[.pointer (some ⟨d0, 0, none⟩), .pointer (some ⟨d1, 0, none⟩), .pointer (some ⟨d2, 0, none⟩), .pointer (some ⟨d3, 0, none⟩)] 25)).alloc (.cells #[.int .i64 0] 3) = w3 at *
  generalize w2.heap.size = lb at *
  generalize (some (⟨d0, 0, none⟩ : Addr)) = x0 at *
  generalize (some (⟨d1, 0, none⟩ : Addr)) = x1 at *
  generalize (some (⟨d2, 0, none⟩ : Addr)) = x2 at *
  generalize (some (⟨d3, 0, none⟩ : Addr)) = x3 at *
  obtain ⟨ab, habe⟩ : ∃ ab, lb + 1 = ab := ⟨_, rfl⟩
  rw [habe] at HP4 ⊢
  refine (at_any x0 x1 x2 x3 0 (by omega) w3).mono ?_
  rintro e w4 ⟨rfl, hb4⟩
  have HP5 := Lib.hid (HP4.out.upd (Upd.of_below (S := []) hb4) (by simp) (by simp) (by simp))
  have HB5 := Lib.hid (HB4.out.trans (hb4.mono HB4.out.size))
  clear hb4 HP4 HB4
  go_wp2_with fail
  refine (New_any (dsel x0 x1 x2 x3 0) w4).mono ?_
  rintro e w5 ⟨ca, ra, rfl, hr5, hb5, hc5, hrr⟩
  have HP6 := Lib.hid (HP5.out.upd (Upd.of_below (S := []) hb5) (by simp) (by simp) (by simp))
  have HB6 := Lib.hid (HB5.out.trans (hb5.mono HB5.out.size))
  have HR6 := Lib.hid hr5
  have habl : ab < w4.heap.size := heap_lt HP5.out.1
  clear hb5 hr5 HP5 HB5
  go_wp2_with fail
  refine (Lazy_any 13 #[.pointer (some ⟨ab, 0, none⟩), .pointer (some ⟨lb, 0, none⟩), .pointer (some ⟨fb, 0, none⟩)] w5).mono ?_
  rintro e w6 ⟨rfl, hr6, hb6⟩
  have hI : AP w w6 ab lb fb ra ca w5.heap.size x0 x1 x2 x3 a q (dsel x0 x1 x2 x3 0) 0 0 := by
    have h1 := HB6.out.size
    have h2 := hfb.out
    exact ⟨HB6.out.trans (hb6.mono h1), HP6.out.upd (Upd.of_below (S := []) hb6) (by simp) (by simp) (by simp), HR6.out.below hb6, .inl ⟨rfl, hr6⟩, by omega, by omega, by omega, by omega⟩
  have HI := Lib.hid hI
  have habe' := Lib.hid habe
  clear hI hb6 hr6 HP6 HB6 HR6 hc5 hrr habl habe hlf hsz2
  generalize w5.heap.size = rb at HI ⊢
  obtain ⟨m0, m1, m2, m3, f0, b0⟩ := HI.out.cells
  have hc := Lib.hid (HI.out.stepA HI.out.rn.Load)
  go_wp2_with fail
  refine hc.out.mono ?_
  clear hc HI m0 m1 m2 m3 f0 b0
  rintro e wn ⟨rfl, hI⟩
  have HI := Lib.hid hI
  clear hI
  go_wp2_with fail
  generalize dsel x0 x1 x2 x3 0 = d at HI ⊢
  go_loopg [9, 12] len (fun gk sw i wr => ∃ (k j n : Nat) (d : Option Addr), gk = len - k ∧ k ≤ len ∧ i = .int .i64 k ∧ sw = .int .u64 j ∧ j ≤ k ∧ n ≤ 1 ∧ AP w wr ab lb fb ra ca rb x0 x1 x2 x3 a q d j n)
  case atStart => exact ⟨0, 0, 0, d, rfl, Nat.zero_le _, rfl, rfl, Nat.le_refl _, by omega, HI.out⟩
  case round =>
    obtain ⟨k, j, n, d, rfl, hk, rfl, rfl, hjk, hn1, hI⟩ := hrel
    clear HI
    have HI := Lib.hid hI
    clear hI
    by_cases hlt : k < len
    · obtain ⟨b, off, y, rfl, g00, hy0, hy1⟩ := hro.out k hlt
      have g0 := keep HI.out.bel g00
      have G0 := Lib.hid g00
      clear g00
      have hro' := hro
      clear hro
      by_cases hodd : (y % 2 == 1) = true
      ·
        have hc := Lib.hid (HI.out.loadB HQ.out HAB.out)
        go_wp2_with fail
        refine hc.out.mono ?_
        clear hc HI g0
        rintro e wn ⟨rfl, hI⟩
        have HI := Lib.hid hI
        clear hI
        obtain ⟨m0, m1, m2, m3, f0, b0⟩ := HI.out.cells
        go_wp2_with fail
        rw [HQ.out]
        have hc := Lib.hid (HI.out.at q (by omega))
        refine hc.out.mono ?_
        clear hc HI m0 m1 m2 m3 f0 b0
        rintro e wn ⟨rfl, hI⟩
        have HI := Lib.hid hI
        clear hI
        obtain ⟨m0, m1, m2, m3, f0, b0⟩ := HI.out.cells
        have e1 := neq_dir
        go_wp2_with fail
        go_roundg (len - (k + 1))
        case measure => omega
        case rel => exact ⟨k + 1, j, 1, d, rfl, by omega, by go_num, rfl, by omega, by omega, HI.out⟩
      · replace hodd : (y % 2 == 1) = false := by simpa using hodd
        obtain ⟨z, hz, hz4⟩ : ∃ z : Nat, y % 4 = z ∧ z < 4 := ⟨(y % 4).toNat, by omega, by omega⟩
        have HZ := Lib.hid hz
        clear hz
        go_upto_region 20 with fail
        go_cut [74] (fun v wx => v = .bool false ∧ AP w wx ab lb fb ra ca rb x0 x1 x2 x3 a q (dsel x0 x1 x2 x3 z) ((j : Int) + 1) n)
        case first =>
          obtain ⟨m0, m1, m2, m3, f0, b0⟩ := HI.out.cells
          have hat := Lib.hid ((HI.out.below (Below.refl _ _).drew).at z (by omega))
          have hz2 : y.tmod 4 = z := by rw [Int.tmod_eq_emod_of_nonneg hy0]; exact HZ.out
          have hz1 := HZ.out
          have hwz : IntKind.i64.wrap (z : Int) = z := IntWalk.i64_in (z : Int) (by omega)
          have hwj : IntKind.u64.wrap (j : Int) = j := by rw [IntKind.wrap_u64]; omega
          clear f0 b0
          go_region_held3 (fun w' => w'.cell? ⟨b, off + k, none⟩ = some (.int .u8 y) ∧ w'.cell? ⟨lb, 0, none⟩ = some (.pointer x0) ∧ w'.cell? ⟨lb, 1, none⟩ = some (.pointer x1) ∧ w'.cell? ⟨lb, 2, none⟩ = some (.pointer x2) ∧ w'.cell? ⟨lb, 3, none⟩ = some (.pointer x3)) (first | exact ⟨i4, i0, i1, i2, i3⟩ | exact ⟨p4, p0, p1, p2, p3⟩ | go_keep) (first
            | (go_at_call 11; refine hat.out.mono ?_; rintro e w2 ⟨rfl, hI2⟩; have hswap := Lib.hid (hI2.stepA (hI2.rn.Swap_yes (by omega) (dsel x0 x1 x2 x3 z))); obtain ⟨p0, p1, p2, p3, _, _⟩ := hI2.cells; have p4 := keep hI2.bel G0.out; replace hI2 := Lib.hid hI2)
            | (go_at_call 15; refine hswap.out.mono ?_; rintro e w3 ⟨rfl, hI3⟩; obtain ⟨i0, i1, i2, i3, _, _⟩ := hI3.cells; have i4 := keep hI3.bel G0.out; replace hI3 := Lib.hid hI3))
          all_goals
            go_wp2_with fail
            go_meet
            exact ⟨rfl, hI3.out⟩
        case rest =>
          clear HI g0
          obtain ⟨rfl, hI⟩ := hcut
          have HI := Lib.hid hI
          clear hI
          go_wp2_with fail
          go_roundg (len - (k + 1))
          case measure => omega
          case rel => exact ⟨k + 1, j + 1, n, dsel x0 x1 x2 x3 z, rfl, by omega, by go_num, by go_num, by omega, hn1, by have := HI.out; rwa [show ((j + 1 : Nat) : Int) = (j : Int) + 1 by omega]⟩
    · obtain rfl : k = len := by omega
      obtain ⟨m0, m1, m2, m3, f0, b0⟩ := HI.out.cells
      have hc := Lib.hid (HI.out.stepA HI.out.rn.Version)
      go_wp2_with fail
      refine hc.out.mono ?_
      clear hc HI m0 m1 m2 m3 f0 b0
      rintro e wn ⟨rfl, hI⟩
      have HI := Lib.hid hI
      clear hI
      go_wp2_with fail
      go_ret
      exact ⟨rfl, HI.out.bel⟩
end Go.Proofs.Ytmmnheobpbmniaa
