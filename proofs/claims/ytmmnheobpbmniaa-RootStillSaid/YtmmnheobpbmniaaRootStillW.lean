/- The walk of the law RootStill: for any acts and any two places it returns true. -/
import Derived.Test.YtmmnheobpbmniaaRootActs
import Derived.IntWalk
namespace Go.Proofs.Ytmmnheobpbmniaa
open Go.RowKit
/-- What was loaded (d0, m) beside what is there (d, n); t: there was a Swap between. -/
def Saved (d0 d : Option Addr) (m n : Nat) (t : Bool) : Prop := m ≤ n ∧ (t = false → m = n ∧ d0 = d) ∧ (t = true → m < n)
set_option maxRecDepth 100000 in
set_option maxHeartbeats 4000000 in
theorem stillLaw_walk (s : Option Addr) (len cap : Nat) (rows : List (List Value)) (fr tz : Int) (w : World) (hr : IsFlat act19K w s len rows) (hf : (Lit.int .u16 fr).wf = true) (ht : (Lit.int .u16 tz).wf = true) :
    Calls Try.prog 6 #[.slice s len cap, .int .u16 fr, .int .u16 tz] w fun e w' => e = .returned (.bool true) ∧ Below w.heap.size w w' := by
  obtain ⟨f0, f1⟩ : 0 ≤ fr ∧ fr ≤ 65535 := by
    simp [Lit.wf, IntKind.min, IntKind.max, IntKind.signed, IntKind.bits] at hf
    omega
  obtain ⟨t0, t1⟩ : 0 ≤ tz ∧ tz ≤ 65535 := by
    simp [Lit.wf, IntKind.min, IntKind.max, IntKind.signed, IntKind.bits] at ht
    omega
  clear hf ht
  have hro := Lib.hid (act19_row hr)
  clear hr
  go_enter Try.func6, Try.ntmps6
  go_wp2_with fail
  refine (awake19_any _).mono ?_
  rintro e w1 ⟨rfl, hb1⟩
  have HB1 := Lib.hid hb1
  clear hb1
  by_cases hl : 300 < len
  · go_wp2_with fail
    go_ret
    exact ⟨rfl, HB1.out⟩
  go_wp2_with fail
  refine (dirs_any _).mono ?_
  rintro e w2 ⟨d0, d1, d2, d3, k0, k1, rfl, _, _, _, hb2⟩
  have hb3 := (Below.refl w2.heap.size w2).alloc (Nat.le_refl _) (.cells #[.pointer (some ⟨d0, 0, none⟩), .pointer (some ⟨d1, 0, none⟩), .pointer (some ⟨d2, 0, none⟩), .pointer (some ⟨d3, 0, none⟩)] 25)
  have hl3 := heap_alloc_new w2 (.cells #[.pointer (some ⟨d0, 0, none⟩), .pointer (some ⟨d1, 0, none⟩), .pointer (some ⟨d2, 0, none⟩), .pointer (some ⟨d3, 0, none⟩)] 25)
  have HB3 := Lib.hid ((HB1.out.trans (hb2.mono HB1.out.size)).trans (hb3.mono (Nat.le_trans HB1.out.size hb2.size)))
  have HL3 := Lib.hid hl3
  clear hb2 hb3 hl3 HB1
  go_wp2_with fail
  generalize w2.alloc (.cells #[.pointer (some ⟨d0, 0, none⟩), .pointer (some ⟨d1, 0, none⟩), .pointer (some ⟨d2, 0, none⟩), .pointer (some ⟨d3, 0, none⟩)] 25) = w3 at *
  generalize w2.heap.size = lb at *
  generalize (some (⟨d0, 0, none⟩ : Addr)) = x0 at *
  generalize (some (⟨d1, 0, none⟩ : Addr)) = x1 at *
  generalize (some (⟨d2, 0, none⟩ : Addr)) = x2 at *
  generalize (some (⟨d3, 0, none⟩ : Addr)) = x3 at *
  refine (New_any x0 w3).mono ?_
  rintro e w5 ⟨c, r, rfl, hr5, hb5, hc5, hrr⟩
  have hI : RW w w5 lb r c x0 x1 x2 x3 x0 0 := by
    have h1 := heap_lt HL3.out
    have h2 := HB3.out.size
    exact ⟨HB3.out.trans (hb5.mono HB3.out.size), Below.heap' hb5 HL3.out, hr5, by omega, by omega, hc5⟩
  have HI := Lib.hid hI
  clear hI hr5 hb5 hc5 hrr HB3 HL3
  have hc := Lib.hid (HI.out.Load)
  go_wp2_with fail
  refine hc.out.mono ?_
  clear hc HI
  rintro e wn ⟨rfl, hI⟩
  have HI := Lib.hid hI
  clear hI
  go_wp2_with fail
  go_loopg [9, 10, 11, 12, 13] len (fun gk dv vv sv tv i wr => ∃ (k n m : Nat) (d d0 : Option Addr) (t : Bool), gk = len - k ∧ k ≤ len ∧ i = .int .i64 k ∧ dv = .pointer d0 ∧ vv = .int .u64 m ∧ sv = .int .u64 n ∧ tv = .bool t ∧ n ≤ k ∧ Saved d0 d m n t ∧ RW w wr lb r c x0 x1 x2 x3 d n)
  case atStart => exact ⟨0, 0, 0, x0, x0, false, rfl, Nat.zero_le _, rfl, rfl, rfl, rfl, rfl, Nat.le_refl _, ⟨Nat.le_refl _, fun _ => ⟨rfl, rfl⟩, fun h => by cases h⟩, HI.out⟩
  case round =>
    obtain ⟨k, n, m, d, d0, t, rfl, hk, rfl, rfl, rfl, rfl, rfl, hnk, hsv, hI⟩ := hrel
    clear HI
    have HI := Lib.hid hI
    replace hsv := Lib.hid hsv
    clear hI
    by_cases hlt : k < len
    · obtain ⟨b, off, rfl, hbw, dó, V, now, dd, hact, hwf, hwV, hd0, hd1⟩ := hro.out k hlt
      replace hact := Lib.hid hact
      obtain ⟨z, hz, hz5⟩ : ∃ z : Nat, dd % 5 = z ∧ z < 5 := ⟨(dd % 5).toNat, by omega, by omega⟩
      have HZ := Lib.hid hz
      clear hz
      have hro' := hro
      clear hro
      go_upto_if 42 with fail
      go_cut [9, 10, 12] (fun dv vv tv wx => ∃ (m : Nat) (d0 : Option Addr) (t : Bool), dv = .pointer d0 ∧ vv = .int .u64 m ∧ tv = .bool t ∧ Saved d0 d m n t ∧ RW w wx lb r c x0 x1 x2 x3 d n)
      case first =>
        by_cases hfr : ((k : Int) == fr) = true
        ·
          have hc := Lib.hid (HI.out.Load)
          go_wp2_with fail
          refine hc.out.mono ?_
          clear hc HI
          rintro e wn ⟨rfl, hI⟩
          have HI := Lib.hid hI
          clear hI
          go_wp2_with fail
          go_meet
          exact ⟨n, d, false, rfl, rfl, rfl, ⟨Nat.le_refl _, fun _ => ⟨rfl, rfl⟩, fun h => by cases h⟩, HI.out⟩
        · replace hfr : ((k : Int) == fr) = false := by simpa using hfr
          go_wp2_with fail
          go_meet
          exact ⟨m, d0, t, rfl, rfl, rfl, hsv.out, HI.out⟩
      case rest =>
        clear HI hsv
        obtain ⟨m, d0, t, rfl, rfl, rfl, hsv, hI⟩ := hcut
        have HI := Lib.hid hI
        replace hsv := Lib.hid hsv
        clear hI
        go_upto_if 51 with fail
        go_cut [12] (fun tv wx => tv = .bool t ∧ RW w wx lb r c x0 x1 x2 x3 d n)
        case first =>
          by_cases hto : ((k : Int) == tz) = true
          ·
            have hc := Lib.hid (HI.out.Load)
            go_wp2_with fail
            refine hc.out.mono ?_
            clear hc HI
            rintro e wn ⟨rfl, hI⟩
            have HI := Lib.hid hI
            clear hI
            cases t
            ·
              obtain ⟨hmn, rfl⟩ := hsv.out.2.1 rfl
              have hv : ((n : Int) == (m : Int)) = true := by rw [hmn]; simp
              have HV := Lib.hid hv
              have hv2 : ((n : Int) != (m : Int)) = false := by rw [hmn]; simp
              clear hv hmn
              have e1 := neq_dir
              have hc := Lib.hid (HI.out.Valid m true HV.out)
              go_wp2_with fail
              refine hc.out.mono ?_
              clear hc HI
              rintro e wn ⟨rfl, hI⟩
              have HI := Lib.hid hI
              clear hI
              have hc := Lib.hid (HI.out.Valid m true HV.out)
              go_wp2_with fail
              refine hc.out.mono ?_
              clear hc HI
              rintro e wn ⟨rfl, hI⟩
              have HI := Lib.hid hI
              clear hI
              go_wp2_with fail
              go_meet
              exact ⟨rfl, HI.out⟩
            ·
              have hmn := hsv.out.2.2 rfl
              have hv : ((n : Int) == (m : Int)) = false := beq_eq_false_iff_ne.2 (by omega)
              have HV := Lib.hid hv
              clear hv
              have hc := Lib.hid (HI.out.Valid m false HV.out)
              go_wp2_with fail
              refine hc.out.mono ?_
              clear hc HI
              rintro e wn ⟨rfl, hI⟩
              have HI := Lib.hid hI
              clear hI
              have hc := Lib.hid (HI.out.Valid m false HV.out)
              go_wp2_with fail
              refine hc.out.mono ?_
              clear hc HI
              rintro e wn ⟨rfl, hI⟩
              have HI := Lib.hid hI
              clear hI
              go_wp2_with fail
              go_meet
              exact ⟨rfl, HI.out⟩
          · replace hto : ((k : Int) == tz) = false := by simpa using hto
            go_wp2_with fail
            go_meet
            exact ⟨rfl, HI.out⟩
        case rest =>
          clear HI
          obtain ⟨rfl, hI⟩ := hcut
          have HX := Lib.hid (hI.act dó V now dd)
          obtain ⟨g0, g1, g2, g3⟩ := hact.out
          replace g0 := keep hI.bel g0
          replace g1 := keep hI.bel g1
          replace g2 := keep hI.bel g2
          replace g3 := keep hI.bel g3
          clear hI
          by_cases hdo : (dó != 0) = true
          · go_wp2_with fail
            go_roundg (len - (k + 1))
            case measure => omega
            case rel => exact ⟨k + 1, n, m, d, d0, t, rfl, by omega, by go_num, rfl, rfl, rfl, rfl, by omega, hsv.out, HX.out.rw⟩
          replace hdo : (dó != 0) = false := by simpa using hdo
          go_upto_if 86 with fail
          clear g0 g1 g2 g3
          generalize wc.alloc (.cells #[.int .i64 dó, .int .u64 V, .bool now, .int .u8 dd] 62) = w6 at HX ⊢
          generalize wc.heap.size = xb at HX ⊢
          go_cut [12] (fun tv wx => tv = .bool t ∧ ∃ V' : Int, RX w wx lb r c x0 x1 x2 x3 d n xb dó V' now dd)
          case first =>
            have HI := HX
            cases now
            · obtain ⟨c0, c1, c2, c3, cf⟩ := HI.out.cells
              go_wp2_with fail
              go_meet
              exact ⟨rfl, V, HI.out⟩
            · obtain ⟨c0, c1, c2, c3, cf⟩ := HI.out.cells
              have hc := Lib.hid (HI.out.step HI.out.rw.rn.Version)
              go_wp2_with fail
              refine hc.out.mono ?_
              clear hc HI c0 c1 c2 c3 cf
              rintro e wn ⟨rfl, hI⟩
              have HI := Lib.hid hI
              clear hI
              obtain ⟨c0, c1, c2, c3, cf⟩ := HI.out.cells
              have HS := Lib.hid (HI.out.set n)
              go_wp2_with fail
              go_meet
              exact ⟨rfl, n, HS.out⟩
          case rest =>
            clear HX
            obtain ⟨rfl, V', hI⟩ := hcut
            have HI := Lib.hid hI
            clear hI
            have hc := Lib.hid (HI.out.step HI.out.rw.rn.Version)
            go_wp2_with fail
            refine hc.out.mono ?_
            clear hc HI
            rintro e wn ⟨rfl, hI⟩
            have HI := Lib.hid hI
            clear hI
            obtain ⟨c0, c1, c2, c3, cf⟩ := HI.out.cells
            obtain ⟨m0, m1, m2, m3⟩ := HI.out.rw.cells
            by_cases hV : V' = (n : Int)
            ·
              subst hV
              go_upto_region 25 with fail
              go_cut [18] (fun v wx => v = .bool true ∧ RX w wx lb r c x0 x1 x2 x3 (dsel x0 x1 x2 x3 z) ((n : Int) + 1) xb dó (n : Int) now dd)
              case first =>
                have hat := Lib.hid ((HI.out.below (Below.refl _ _).drew).at z (by omega))
                have hz2 : dd.tmod 5 = z := by rw [Int.tmod_eq_emod_of_nonneg hd0]; exact HZ.out
                have hz1 := HZ.out
                have hwz : IntKind.i64.wrap (z : Int) = z := IntWalk.i64_in (z : Int) (by omega)
                go_region_held3 (fun w' => w'.cell? ⟨xb, 1, none⟩ = some (.int .u64 (n : Int)) ∧ w'.cell? ⟨xb, 3, none⟩ = some (.int .u8 dd) ∧ w'.cell? ⟨lb, 0, none⟩ = some (.pointer x0) ∧ w'.cell? ⟨lb, 1, none⟩ = some (.pointer x1) ∧ w'.cell? ⟨lb, 2, none⟩ = some (.pointer x2) ∧ w'.cell? ⟨lb, 3, none⟩ = some (.pointer x3)) (first | exact ⟨j1, j3, i0, i1, i2, i3⟩ | exact ⟨k1, k3, p0, p1, p2, p3⟩ | go_keep) (first
                  | (go_at_call 11; refine hat.out.mono ?_; rintro e w2 ⟨rfl, hI2⟩; have hswap := Lib.hid (hI2.step (hI2.rw.rn.Swap_yes (by omega) (dsel x0 x1 x2 x3 z))); obtain ⟨k0, k1, k2, k3, k4⟩ := hI2.cells; obtain ⟨p0, p1, p2, p3⟩ := hI2.rw.cells; replace hI2 := Lib.hid hI2)
                  | (go_at_call 15; refine hswap.out.mono ?_; rintro e w3 ⟨rfl, hI3⟩; obtain ⟨j0, j1, j2, j3, j4⟩ := hI3.cells; obtain ⟨i0, i1, i2, i3⟩ := hI3.rw.cells; replace hI3 := Lib.hid hI3))
                all_goals
                  go_wp2_with fail
                  go_meet
                  exact ⟨rfl, hI3.out⟩
              case rest =>
                clear HI c0 c1 c2 c3 cf m0 m1 m2 m3
                obtain ⟨rfl, hI⟩ := hcut
                have HI := Lib.hid hI
                clear hI
                obtain ⟨c0, c1, c2, c3, cf⟩ := HI.out.cells
                have hc := Lib.hid (HI.out.step HI.out.rw.rn.Version)
                go_wp2_with fail
                refine hc.out.mono ?_
                clear hc HI c0 c1 c2 c3 cf
                rintro e wn ⟨rfl, hI⟩
                have HI := Lib.hid hI
                clear hI
                have HU := Lib.hid (show Saved d0 (dsel x0 x1 x2 x3 z) m (n + 1) true from ⟨by have := hsv.out.1; omega, (fun h => by cases h), fun _ => by have := hsv.out.1; omega⟩)
                go_wp2_with fail
                go_roundg (len - (k + 1))
                case measure => omega
                case rel => exact ⟨k + 1, n + 1, m, dsel x0 x1 x2 x3 z, d0, true, rfl, by omega, by go_num, rfl, rfl, by go_num, rfl, by omega, HU.out, by have := HI.out.rw; rwa [show ((n + 1 : Nat) : Int) = (n : Int) + 1 by omega]⟩
            ·
              have hv1 : (V' == (n : Int)) = false := beq_eq_false_iff_ne.2 hV
              have hv2 : ((n : Int) == V') = false := beq_eq_false_iff_ne.2 (fun h => hV h.symm)
              have HVF := Lib.hid hv2
              clear hv2
              replace hV := Lib.hid hV
              go_upto_region 25 with fail
              go_cut [18] (fun v wx => v = .bool false ∧ RX w wx lb r c x0 x1 x2 x3 d (n : Int) xb dó V' now dd)
              case first =>
                have hat := Lib.hid ((HI.out.below (Below.refl _ _).drew).at z (by omega))
                have hz2 : dd.tmod 5 = z := by rw [Int.tmod_eq_emod_of_nonneg hd0]; exact HZ.out
                have hz1 := HZ.out
                have hwz : IntKind.i64.wrap (z : Int) = z := IntWalk.i64_in (z : Int) (by omega)
                go_region_held3 (fun w' => w'.cell? ⟨xb, 1, none⟩ = some (.int .u64 V') ∧ w'.cell? ⟨xb, 3, none⟩ = some (.int .u8 dd) ∧ w'.cell? ⟨lb, 0, none⟩ = some (.pointer x0) ∧ w'.cell? ⟨lb, 1, none⟩ = some (.pointer x1) ∧ w'.cell? ⟨lb, 2, none⟩ = some (.pointer x2) ∧ w'.cell? ⟨lb, 3, none⟩ = some (.pointer x3)) (first | exact ⟨j1, j3, i0, i1, i2, i3⟩ | exact ⟨k1, k3, p0, p1, p2, p3⟩ | go_keep) (first
                  | (go_at_call 11; refine hat.out.mono ?_; rintro e w2 ⟨rfl, hI2⟩; have hswap := Lib.hid (hI2.step (hI2.rw.rn.Swap_no V' HVF.out (dsel x0 x1 x2 x3 z))); obtain ⟨k0, k1, k2, k3, k4⟩ := hI2.cells; obtain ⟨p0, p1, p2, p3⟩ := hI2.rw.cells; replace hI2 := Lib.hid hI2)
                  | (go_at_call 15; refine hswap.out.mono ?_; rintro e w3 ⟨rfl, hI3⟩; obtain ⟨j0, j1, j2, j3, j4⟩ := hI3.cells; obtain ⟨i0, i1, i2, i3⟩ := hI3.rw.cells; replace hI3 := Lib.hid hI3))
                all_goals
                  go_wp2_with fail
                  go_meet
                  exact ⟨rfl, hI3.out⟩
              case rest =>
                clear HI c0 c1 c2 c3 cf m0 m1 m2 m3
                obtain ⟨rfl, hI⟩ := hcut
                have HI := Lib.hid hI
                clear hI
                obtain ⟨c0, c1, c2, c3, cf⟩ := HI.out.cells
                have hc := Lib.hid (HI.out.step HI.out.rw.rn.Version)
                go_wp2_with fail
                refine hc.out.mono ?_
                clear hc HI c0 c1 c2 c3 cf
                rintro e wn ⟨rfl, hI⟩
                have HI := Lib.hid hI
                clear hI
                go_wp2_with fail
                go_roundg (len - (k + 1))
                case measure => omega
                case rel => exact ⟨k + 1, n, m, d, d0, t, rfl, by omega, by go_num, rfl, rfl, rfl, rfl, by omega, hsv.out, HI.out.rw⟩
    · obtain rfl : k = len := by omega
      go_wp2_with fail
      go_ret
      exact ⟨rfl, HI.out.bel⟩
end Go.Proofs.Ytmmnheobpbmniaa
