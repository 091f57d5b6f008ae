/- The walk of the law RootRow: for any first directory and any numbers it returns true. -/
import Derived.Test.YtmmnheobpbmniaaRootWorld
namespace Go.Proofs.Ytmmnheobpbmniaa
open Go.RowKit
set_option maxRecDepth 100000 in
set_option maxHeartbeats 4000000 in
theorem rowLaw_walk (a : Int) (s : Option Addr) (len cap : Nat) (rows : List (List Value)) (w : World) (ha : (Lit.int .u8 a).wf = true) (hr : IsFlat [.inl .u8] w s len rows) :
    Calls Try.prog 7 #[.int .u8 a, .slice s len cap] w fun e w' => e = .returned (.bool true) ∧ Below w.heap.size w w' := by
  obtain ⟨a0, a1⟩ : 0 ≤ a ∧ a ≤ 255 := by
    simp [Lit.wf, IntKind.min, IntKind.max, IntKind.signed, IntKind.bits] at ha
    omega
  clear ha
  have hro := Lib.hid (byte_row hr)
  clear hr
  obtain ⟨q, hq, hq4⟩ : ∃ q : Nat, a % 4 = q ∧ q < 4 := ⟨(a % 4).toNat, by omega, by omega⟩
  have HQ := Lib.hid hq
  clear hq
  go_enter Try.func7, Try.ntmps7
  go_wp2_with fail
  refine (awake19_any _).mono ?_
  rintro e w1 ⟨rfl, hb1⟩
  have HB1 := Lib.hid hb1
  clear hb1
  by_cases hl : 300 < len
  · go_wp2_with fail
    go_ret
    exact ⟨rfl, HB1.out⟩
  go_wp2_with fail
  refine (dirs_any _).mono ?_
  rintro e w2 ⟨d0, d1, d2, d3, k0, k1, rfl, _, _, _, hb2⟩
  have hb3 := (Below.refl w2.heap.size w2).alloc (Nat.le_refl _) (.cells #[.pointer (some ⟨d0, 0, none⟩), .pointer (some ⟨d1, 0, none⟩), .pointer (some ⟨d2, 0, none⟩), .pointer (some ⟨d3, 0, none⟩)] 25)
  have hl3 := heap_alloc_new w2 (.cells #[.pointer (some ⟨d0, 0, none⟩), .pointer (some ⟨d1, 0, none⟩), .pointer (some ⟨d2, 0, none⟩), .pointer (some ⟨d3, 0, none⟩)] 25)
  have HB3 := Lib.hid ((HB1.out.trans (hb2.mono HB1.out.size)).trans (hb3.mono (Nat.le_trans HB1.out.size hb2.size)))
  have HL3 := Lib.hid hl3
  clear hb2 hb3 hl3 HB1
  go_wp2_with fail
  rw [HQ.out]
  generalize w2.alloc (.cells #[.pointer (some ⟨d0, 0, none⟩), .pointer (some ⟨d1, 0, none⟩), .pointer (some ⟨d2, 0, none⟩), .pointer (some ⟨d3, 0, none⟩)] 25) = w3 at *
  generalize w2.heap.size = lb at *
  generalize (some (⟨d0, 0, none⟩ : Addr)) = x0 at *
  generalize (some (⟨d1, 0, none⟩ : Addr)) = x1 at *
  generalize (some (⟨d2, 0, none⟩ : Addr)) = x2 at *
  generalize (some (⟨d3, 0, none⟩ : Addr)) = x3 at *
  refine (at_any x0 x1 x2 x3 q (by omega) w3).mono ?_
  rintro e w4 ⟨rfl, hb4⟩
  have HB4 := Lib.hid (HB3.out.trans (hb4.mono HB3.out.size))
  have HL4 := Lib.hid (Below.heap' hb4 HL3.out)
  clear hb4 HB3 HL3
  go_wp2_with fail
  refine (New_any (dsel x0 x1 x2 x3 q) w4).mono ?_
  rintro e w5 ⟨c, r, rfl, hr5, hb5, hc5, hrr⟩
  have hI : RW w w5 lb r c x0 x1 x2 x3 (dsel x0 x1 x2 x3 q) 0 := by
    have h1 := heap_lt HL4.out
    have h2 := HB4.out.size
    exact ⟨HB4.out.trans (hb5.mono HB4.out.size), Below.heap' hb5 HL4.out, hr5, by omega, by omega⟩
  have HI := Lib.hid hI
  clear hI hr5 hb5 hc5 hrr HB4 HL4
  obtain ⟨m0, m1, m2, m3⟩ := HI.out.cells
  go_wp2_with fail
  rw [HQ.out]
  have hc := Lib.hid (HI.out.at q (by omega))
  clear m0 m1 m2 m3
  refine hc.out.mono ?_
  clear hc HI
  rintro e wn ⟨rfl, hI⟩
  have HI := Lib.hid hI
  clear hI
  have hc := Lib.hid (HI.out.Load)
  go_wp2_with fail
  refine hc.out.mono ?_
  clear hc HI
  rintro e wn ⟨rfl, hI⟩
  have HI := Lib.hid hI
  clear hI
  go_wp2_with fail
  generalize dsel x0 x1 x2 x3 q = d at HI ⊢
  go_loopg [7, 9, 10] len (fun gk dv vv i wr => ∃ (k : Nat) (d : Option Addr), gk = len - k ∧ k ≤ len ∧ i = .int .i64 k ∧ dv = .pointer d ∧ vv = .int .u64 k ∧ RW w wr lb r c x0 x1 x2 x3 d k)
  case atStart => exact ⟨0, d, rfl, Nat.zero_le _, rfl, rfl, rfl, HI.out⟩
  case round =>
    obtain ⟨k, d, rfl, hk, rfl, rfl, rfl, hI⟩ := hrel
    clear HI
    have HI := Lib.hid hI
    clear hI
    by_cases hlt : k < len
    · obtain ⟨b, off, y, rfl, g0, hy0, hy1⟩ := hro.out k hlt
      obtain ⟨z, hz, hz4⟩ : ∃ z : Nat, y % 4 = z ∧ z < 4 := ⟨(y % 4).toNat, by omega, by omega⟩
      have hz2 : y.tmod 4 = z := by rw [Int.tmod_eq_emod_of_nonneg hy0]; exact hz
      replace g0 := keep HI.out.bel g0
      obtain ⟨m0, m1, m2, m3⟩ := HI.out.cells
      have hro' := hro
      clear hro
      go_wp2_with fail
      go_still_tail 7, (by kernel_rfl)
      change wpList _ _ _ _ _ wr.drew
      clear hz hz2 m0 m1 m2 m3
      have HI2 := Lib.hid (HI.out.below (Below.refl _ _).drew)
      have hc := Lib.hid (HI2.out.at z (by omega))
      go_wp2_with fail
      refine hc.out.mono ?_
      clear hc HI HI2 g0
      rintro e wn ⟨rfl, hI⟩
      have HI := Lib.hid hI
      clear hI
      have v1 : ((k : Int) == (k : Int) + 1) = false := beq_eq_false_iff_ne.2 (by omega)
      have v2 : ((k : Int) + 1 == (k : Int)) = false := beq_eq_false_iff_ne.2 (by omega)
      have v3 : ((k : Int) + 1 == (k : Int) + 2) = false := beq_eq_false_iff_ne.2 (by omega)
      have V1 := Lib.hid v1
      have V2 := Lib.hid v2
      have V3 := Lib.hid v3
      clear v1 v2 v3
      have hc := Lib.hid (HI.out.Load)
      go_wp2_with fail
      refine hc.out.mono ?_
      clear hc HI
      rintro e wn ⟨rfl, hI⟩
      have HI := Lib.hid hI
      clear hI
      have hc := Lib.hid (HI.out.Version)
      have e1 := neq_dir
      go_wp2_with fail
      refine hc.out.mono ?_
      clear hc HI
      rintro e wn ⟨rfl, hI⟩
      have HI := Lib.hid hI
      clear hI
      have hc := Lib.hid (HI.out.Valid k true (by simp))
      go_wp2_with fail
      refine hc.out.mono ?_
      clear hc HI
      rintro e wn ⟨rfl, hI⟩
      have HI := Lib.hid hI
      clear hI
      have hc := Lib.hid (HI.out.Valid (k + 1) false V1.out)
      go_wp2_with fail
      refine hc.out.mono ?_
      clear hc HI
      rintro e wn ⟨rfl, hI⟩
      have HI := Lib.hid hI
      clear hI
      have hc := Lib.hid (HI.out.Swap_yes (by omega) (dsel x0 x1 x2 x3 z))
      go_wp2_with fail
      refine hc.out.mono ?_
      clear hc HI
      rintro e wn ⟨rfl, hI⟩
      have HI := Lib.hid hI
      clear hI
      have hc := Lib.hid (HI.out.Swap_no k V2.out d)
      go_wp2_with fail
      refine hc.out.mono ?_
      clear hc HI
      rintro e wn ⟨rfl, hI⟩
      have HI := Lib.hid hI
      clear hI
      have hc := Lib.hid (HI.out.Swap_no (k + 2) V3.out d)
      go_wp2_with fail
      refine hc.out.mono ?_
      clear hc HI
      rintro e wn ⟨rfl, hI⟩
      have HI := Lib.hid hI
      clear hI
      go_wp2_with fail
      go_roundg (len - (k + 1))
      case measure => omega
      case rel => exact ⟨k + 1, dsel x0 x1 x2 x3 z, rfl, by omega, by go_num, rfl, by go_num, by have := HI.out; rwa [show ((k + 1 : Nat) : Int) = (k : Int) + 1 by omega]⟩
    · obtain rfl : k = len := by omega
      have e1 := eq_dir
      have hc := Lib.hid (HI.out.Load)
      go_wp2_with fail
      refine hc.out.mono ?_
      clear hc HI
      rintro e wn ⟨rfl, hI⟩
      have HI := Lib.hid hI
      clear hI
      have hc := Lib.hid (HI.out.Valid k true (by simp))
      go_wp2_with fail
      refine hc.out.mono ?_
      clear hc HI
      rintro e wn ⟨rfl, hI⟩
      have HI := Lib.hid hI
      clear hI
      go_wp2_with fail
      go_ret
      exact ⟨rfl, HI.out.bel⟩
end Go.Proofs.Ytmmnheobpbmniaa
