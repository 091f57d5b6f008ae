/- The walk of the law RootPlays: for any first directory, lazy or not, and any acts it returns true. -/
import Derived.Test.YtmmnheobpbmniaaRootPl
import Derived.IntWalk
namespace Go.Proofs.Ytmmnheobpbmniaa
open Go.RowKit
set_option maxRecDepth 100000 in
set_option maxHeartbeats 8000000 in
theorem playsLaw_walk (a : Int) (lz : Bool) (s : Option Addr) (len cap : Nat) (rows : List (List Value)) (w : World) (ha : (Lit.int .u8 a).wf = true) (hr : IsFlat act19K w s len rows) :
    Calls Try.prog 5 #[.int .u8 a, .bool lz, .slice s len cap] w fun e w' => e = .returned (.bool true) ∧ Below w.heap.size w w' := by
  obtain ⟨a0, a1⟩ : 0 ≤ a ∧ a ≤ 255 := by
    simp [Lit.wf, IntKind.min, IntKind.max, IntKind.signed, IntKind.bits] at ha
    omega
  clear ha
  have hro := Lib.hid (act19_row hr)
  clear hr
  obtain ⟨q, hq, hq5⟩ : ∃ q : Nat, a % 5 = q ∧ q < 5 := ⟨(a % 5).toNat, by omega, by omega⟩
  have hmf : ∀ (fn : Fn) (first cap : Array Value) (w : World), (Instr.makeFunc fn first cap).run Try.prog w = .ok (.func fn first cap) w := fun _ _ _ _ => rfl
  go_enter Try.func5, Try.ntmps5
  go_wp2_with fail
  refine (awake19_any _).mono ?_
  rintro e w1 ⟨rfl, hb1⟩
  have HB1 := Lib.hid hb1
  clear hb1
  by_cases hl : 300 < len
  · go_wp2_with fail
    go_ret
    exact ⟨rfl, HB1.out⟩
  go_wp2_with fail
  refine (dirs_any _).mono ?_
  rintro e w2 ⟨d0, d1, d2, d3, k0, k1, rfl, _, _, _, hb2⟩
  have hb3 := (Below.refl w2.heap.size w2).alloc (Nat.le_refl _) (.cells #[.pointer (some ⟨d0, 0, none⟩), .pointer (some ⟨d1, 0, none⟩), .pointer (some ⟨d2, 0, none⟩), .pointer (some ⟨d3, 0, none⟩)] 25)
  have hl3 := heap_alloc_new w2 (.cells #[.pointer (some ⟨d0, 0, none⟩), .pointer (some ⟨d1, 0, none⟩), .pointer (some ⟨d2, 0, none⟩), .pointer (some ⟨d3, 0, none⟩)] 25)
  have HB3 := Lib.hid ((HB1.out.trans (hb2.mono HB1.out.size)).trans (hb3.mono (Nat.le_trans HB1.out.size hb2.size)))
  have HL3 := Lib.hid hl3
  have hw2 : w.heap.size ≤ w2.heap.size := Nat.le_trans HB1.out.size hb2.size
  clear hb2 hb3 hl3 HB1
  go_upto_region 8 with fail
  have hb5 := ((Below.refl (w2.alloc (.cells #[.pointer (some ⟨d0, 0, none⟩), .pointer (some ⟨d1, 0, none⟩), .pointer (some ⟨d2, 0, none⟩), .pointer (some ⟨d3, 0, none⟩)] 25)).heap.size _).alloc (Nat.le_refl _) (.cells #[.int .i64 0] 3)).alloc (by simp) (.cells #[.int .i64 q] 3)
  have hP := show PreP 0 (w2.heap.size + 1) w2.heap.size (w2.heap.size + 1 + 1) (some ⟨d0, 0, none⟩) (some ⟨d1, 0, none⟩) (some ⟨d2, 0, none⟩) (some ⟨d3, 0, none⟩) q (((w2.alloc (.cells #[.pointer (some ⟨d0, 0, none⟩), .pointer (some ⟨d1, 0, none⟩), .pointer (some ⟨d2, 0, none⟩), .pointer (some ⟨d3, 0, none⟩)] 25)).alloc (.cells #[.int .i64 0] 3)).alloc (.cells #[.int .i64 q] 3)) from by
    have h1 := heap_alloc_new (w2.alloc (.cells #[.pointer (some ⟨d0, 0, none⟩), .pointer (some ⟨d1, 0, none⟩), .pointer (some ⟨d2, 0, none⟩), .pointer (some ⟨d3, 0, none⟩)] 25)) (.cells #[.int .i64 0] 3)
    have h2 := heap_alloc_new ((w2.alloc (.cells #[.pointer (some ⟨d0, 0, none⟩), .pointer (some ⟨d1, 0, none⟩), .pointer (some ⟨d2, 0, none⟩), .pointer (some ⟨d3, 0, none⟩)] 25)).alloc (.cells #[.int .i64 0] 3)) (.cells #[.int .i64 q] 3)
    refine ⟨?_, Below.heap' hb5 HL3.out, ?_⟩
    · have h3 := heap_alloc_old (.cells #[.int .i64 q] 3) h1
      simpa using h3
    · simpa using h2
  have HP := Lib.hid hP
  have HB5 := Lib.hid (HB3.out.trans (hb5.mono HB3.out.size))
  have hsz := show (((w2.alloc (.cells #[.pointer (some ⟨d0, 0, none⟩), .pointer (some ⟨d1, 0, none⟩), .pointer (some ⟨d2, 0, none⟩), .pointer (some ⟨d3, 0, none⟩)] 25)).alloc (.cells #[.int .i64 0] 3)).alloc (.cells #[.int .i64 q] 3)).heap.size = w2.heap.size + 3 by simp
  clear hb5 hP HB3 HL3
  generalize ((w2.alloc (.cells #[.pointer (some ⟨d0, 0, none⟩), .pointer (some ⟨d1, 0, none⟩), .pointer (some ⟨d2, 0, none⟩), .pointer (some ⟨d3, 0, none⟩)] 25)).alloc (.cells #[.int .i64 0] 3)).alloc (.cells #[.int .i64 q] 3) = w5 at *
  replace hq := Lib.hid hq
  obtain ⟨lb, hlb⟩ : ∃ lb, w2.heap.size = lb := ⟨_, rfl⟩
  rw [hlb] at HP hsz hw2 ⊢
  clear hlb
  obtain ⟨ab, hab⟩ : ∃ ab, lb + 1 = ab := ⟨_, rfl⟩
  obtain ⟨kb, hkb⟩ : ∃ kb, lb + 1 + 1 = kb := ⟨_, rfl⟩
  rw [hkb, hab] at HP ⊢
  generalize (some (⟨d0, 0, none⟩ : Addr)) = x0 at *
  generalize (some (⟨d1, 0, none⟩ : Addr)) = x1 at *
  generalize (some (⟨d2, 0, none⟩ : Addr)) = x2 at *
  generalize (some (⟨d3, 0, none⟩ : Addr)) = x3 at *
  have m0 : w5.cell? ⟨lb, 0, none⟩ = some (.pointer x0) := by rw [cell_of_heap HP.out.2.1]; rfl
  have m1 : w5.cell? ⟨lb, 1, none⟩ = some (.pointer x1) := by rw [cell_of_heap HP.out.2.1]; rfl
  have m2 : w5.cell? ⟨lb, 2, none⟩ = some (.pointer x2) := by rw [cell_of_heap HP.out.2.1]; rfl
  have m3 : w5.cell? ⟨lb, 3, none⟩ = some (.pointer x3) := by rw [cell_of_heap HP.out.2.1]; rfl
  have kq : w5.cell? ⟨kb, 0, none⟩ = some (.int .i64 q) := by rw [cell_of_heap HP.out.2.2]; rfl
  have hal : w.heap.size ≤ ab ∧ ab < w5.heap.size ∧ lb < w5.heap.size ∧ kb < w5.heap.size ∧ ab ≠ lb ∧ ab ≠ kb := by omega
  replace hab := Lib.hid hab
  replace hkb := Lib.hid hkb
  go_wp2_with fail
  refine (at_any x0 x1 x2 x3 q (by omega) w5).mono ?_
  rintro e w6 ⟨rfl, hb6⟩
  have HP6 := Lib.hid (HP.out.upd (Upd.of_below (S := []) hb6) (by simp) (by simp) (by simp))
  have HB6 := Lib.hid (HB5.out.trans (hb6.mono HB5.out.size))
  have hz6 := hb6.size
  clear hb6 HP HB5 m0 m1 m2 m3 kq
  go_wp2_with fail
  refine (New_any (dsel x0 x1 x2 x3 q) w6).mono ?_
  rintro e w7 ⟨c, r0, rfl, hr7, hb7, hc7, hrr⟩
  have HP7 := Lib.hid (HP6.out.upd (Upd.of_below (S := []) hb7) (by simp) (by simp) (by simp))
  have HB7 := Lib.hid (HB6.out.trans (hb7.mono HB6.out.size))
  have HR7 := Lib.hid hr7
  have hz7 := hb7.size
  clear hb7 hr7 HP6 HB6
  have kq : w7.cell? ⟨kb, 0, none⟩ = some (.int .i64 q) := by rw [cell_of_heap HP7.out.2.2]; rfl
  go_upto_if 33 with fail
  go_cut [10] (fun v wx => ∃ (r : Nat), v = .pointer (some ⟨r, 0, none⟩) ∧ PL w wx ab lb kb c r x0 x1 x2 x3 q lz (dsel x0 x1 x2 x3 q) 0 0)
  case first =>
    cases lz
    · go_wp2_with fail
      go_meet
      exact ⟨r0, rfl, HB7.out, HP7.out, .inl ⟨rfl, rfl, HR7.out⟩, ⟨by omega, by omega, by omega, fun e => HR7.out.1 e.symm, by omega, by omega, by omega⟩, by omega, hc7, by omega⟩
    · go_wp2_with fail
      refine (Lazy_any 19 #[.pointer (some ⟨ab, 0, none⟩), .pointer (some ⟨lb, 0, none⟩), .pointer (some ⟨kb, 0, none⟩)] w7).mono ?_
      rintro e w8 ⟨rfl, hr8, hb8⟩
      have hz8 := hb8.size
      have HE := Lib.hid (show PL w w8 ab lb kb c w7.heap.size x0 x1 x2 x3 q true (dsel x0 x1 x2 x3 q) 0 0 from ⟨HB7.out.trans (hb8.mono HB7.out.size), HP7.out.upd (Upd.of_below (S := []) hb8) (by simp) (by simp) (by simp), .inr ⟨rfl, .inl ⟨rfl, rfl, rfl, hr8⟩⟩, ⟨by omega, by omega, by omega, by omega, by omega, by omega, by omega⟩, by omega, by omega, by omega⟩)
      clear hr8 hb8
      go_wp2_with fail
      go_meet
      exact ⟨_, rfl, HE.out⟩
  case rest =>
    clear HP7 HB7 HR7 kq hz7 hz6 hrr hc7 hal
    obtain ⟨r, rfl, hI⟩ := hcut
    have kq : wc.cell? ⟨kb, 0, none⟩ = some (.int .i64 q) := by rw [cell_of_heap hI.pre.2.2]; rfl
    have hb8 := (Below.refl wc.heap.size wc).alloc (Nat.le_refl _) (.cells #[.int .i64 q, .int .u64 0, .bool lz, .int .i64 0] 60)
    have HO := Lib.hid (hI.own (Nat.le_refl _))
    have HW := Lib.hid (heap_alloc_new wc (.cells #[.int .i64 q, .int .u64 0, .bool lz, .int .i64 0] 60))
    have HI := Lib.hid (hI.below hb8)
    clear hI hb8
    go_wp2_with fail
    clear kq
    generalize wc.alloc (.cells #[.int .i64 q, .int .u64 0, .bool lz, .int .i64 0] 60) = w9 at *
    generalize wc.heap.size = wb at *
    go_loopg [12] len (fun gk i wr => ∃ (k D n m : Nat), gk = len - k ∧ k ≤ len ∧ i = .int .i64 k ∧ n ≤ k ∧ D ≤ 4 ∧ PL w wr ab lb kb c r x0 x1 x2 x3 q lz (dsel x0 x1 x2 x3 D) n m ∧ wr.heap[wb]? = some (.cells #[.int .i64 D, .int .u64 n, .bool lz, .int .i64 m] 60))
    case atStart => exact ⟨0, q, 0, 0, rfl, Nat.zero_le _, rfl, Nat.le_refl _, by omega, HI.out, HW.out⟩
    case round =>
      obtain ⟨k, D, n, m, rfl, hk, rfl, hnk, hD4, hI, hW⟩ := hrel
      clear HI HW
      have HI := Lib.hid hI
      have HW := Lib.hid hW
      clear hI hW
      by_cases hlt : k < len
      ·
        obtain ⟨b, off, rfl, hbw, dó, V, now, dd, hact, hwf, hwV, hd0, hd1⟩ := hro.out k hlt
        obtain ⟨z, hz, hz5⟩ : ∃ z : Nat, dd % 5 = z ∧ z < 5 := ⟨(dd % 5).toNat, by omega, by omega⟩
        have HZ := Lib.hid hz
        clear hz
        have hro' := hro
        clear hro
        obtain ⟨g0, g1, g2, g3⟩ := hact
        replace g0 := keep HI.out.bel g0
        replace g1 := keep HI.out.bel g1
        replace g2 := keep HI.out.bel g2
        replace g3 := keep HI.out.bel g3
        have hwl := heap_lt HW.out
        have HX := Lib.hid (show PW w (wr.alloc (.cells #[.int .i64 dó, .int .u64 V, .bool now, .int .u8 dd] 62)) ab lb kb c r wb wr.heap.size x0 x1 x2 x3 q lz D n m D n m dó V now dd from ⟨HI.out.below ((Below.refl _ _).alloc (Nat.le_refl _) _), heap_alloc_old _ HW.out, heap_alloc_new _ _, HO.out, HI.out.own (Nat.le_refl _), by omega⟩)
        clear hwl
        go_upto_if 50 with fail
        generalize wr.alloc (.cells #[.int .i64 dó, .int .u64 V, .bool now, .int .u8 dd] 62) = w10 at HX ⊢
        generalize wr.heap.size = xb at HX ⊢
        clear g0 g1 g2 g3 HI HW
        go_cut [12] (fun iv wx => iv = .int .i64 k ∧ ∃ V' : Int, PW w wx ab lb kb c r wb xb x0 x1 x2 x3 q lz D n m D n m dó V' now dd)
        case first =>
          obtain ⟨⟨w0', w1', w2', w3', wf⟩, ⟨y0, y1, y2, y3, yf⟩⟩ := HX.out.cells
          have HS := Lib.hid (HX.out.setV n)
          cases now
          · go_wp2_with fail
            go_meet
            exact ⟨rfl, V, HX.out⟩
          · go_wp2_with fail
            go_meet
            exact ⟨rfl, n, HS.out⟩
        case rest =>
          clear HX
          obtain ⟨rfl, V', hI⟩ := hcut
          have hmr := hI.pl.mref
          have HI := Lib.hid hI
          clear hI
          replace hmr : mref lz m = nn lz := hmr
          by_cases hdo : dó = 0
          ·
            subst hdo
            obtain ⟨⟨w0', w1', w2', w3', wf⟩, ⟨y0, y1, y2, y3, yf⟩⟩ := HI.out.cells
            go_upto_if 61 with fail
            clear w0' w1' w2' w3' wf y0 y1 y2 y3 yf
            go_cut [12] (fun iv wx => iv = .int .i64 k ∧ PW w wx ab lb kb c r wb xb x0 x1 x2 x3 q lz D n m D n (nn lz) 0 V' now dd)
            case first =>
              have hask := fun W => ref_ask D n lz m W
              rw [hmr] at hask
              have hc := Lib.hid (HI.out.quiet (hask _))
              clear hask
              obtain ⟨⟨w0', w1', w2', w3', wf⟩, ⟨y0, y1, y2, y3, yf⟩⟩ := HI.out.cells
              go_wp2_with fail
              refine hc.out.mono ?_
              clear hc HI w0' w1' w2' w3' wf y0 y1 y2 y3 yf
              rintro e wn ⟨rfl, hI⟩
              have HI := Lib.hid hI
              clear hI
              obtain ⟨⟨w0', w1', w2', w3', wf⟩, ⟨y0, y1, y2, y3, yf⟩⟩ := HI.out.cells
              have HS := Lib.hid (HI.out.setW D n (nn lz))
              go_wp2_with fail
              go_meet
              exact ⟨rfl, HS.out⟩
            case rest =>
              clear HI
              obtain ⟨rfl, hI⟩ := hcut
              have HI := Lib.hid hI
              clear hI
              by_cases hV : V' = (n : Int)
              ·
                subst hV
                have hsw := fun W => ref_swap D n n z lz (nn lz) W (by omega)
                rw [if_pos rfl, if_pos rfl, beq_self_eq_true] at hsw
                obtain ⟨⟨w0', w1', w2', w3', wf⟩, ⟨y0, y1, y2, y3, yf⟩⟩ := HI.out.cells
                obtain ⟨m0, m1, m2, m3, b0⟩ := HI.out.pl.cells
                have hz1 := HZ.out
                have hc := Lib.hid (HI.out.quiet (hsw _))
                clear hsw
                go_wp2_with fail
                refine hc.out.mono ?_
                clear hc HI hz1 w0' w1' w2' w3' wf y0 y1 y2 y3 yf m0 m1 m2 m3 b0
                rintro e wn ⟨rfl, hI⟩
                have HT := Lib.hid (heap_alloc_new wn (.cells #[.int .i64 z, .int .u64 ((n : Int) + 1), .bool lz, .int .i64 (nn lz)] 60))
                have HOT := Lib.hid (hI.pl.own (b := wn.heap.size) (Nat.le_refl _))
                have htw : wn.heap.size ≠ wb := by have := heap_lt hI.hw; omega
                have HI := Lib.hid (hI.below ((Below.refl _ _).alloc (Nat.le_refl _) (.cells #[.int .i64 z, .int .u64 ((n : Int) + 1), .bool lz, .int .i64 (nn lz)] 60)))
                clear hI
                go_upto_region 23 with fail
                generalize wn.alloc (.cells #[.int .i64 z, .int .u64 ((n : Int) + 1), .bool lz, .int .i64 (nn lz)] 60) = w12 at *
                generalize wn.heap.size = tb at *
                go_cut [90] (fun v wx => v = .bool false ∧ PW w wx ab lb kb c r wb xb x0 x1 x2 x3 q lz z (n + 1) (nn lz) D n (nn lz) 0 (n : Int) now dd ∧ wx.heap[tb]? = some (.cells #[.int .i64 z, .int .u64 ((n : Int) + 1), .bool lz, .int .i64 (nn lz)] 60))
                case first =>
                  obtain ⟨⟨w0', w1', w2', w3', wf⟩, ⟨y0, y1, y2, y3, yf⟩⟩ := HI.out.cells
                  obtain ⟨m0, m1, m2, m3, b0⟩ := HI.out.pl.cells
                  have HI1 := Lib.hid (HI.out.below (Below.refl _ _).drew)
                  have hat := Lib.hid (at_any x0 x1 x2 x3 z (by omega) w12.drew)
                  have HT1 := Lib.hid (show w12.drew.heap[tb]? = some (.cells #[.int .i64 z, .int .u64 ((n : Int) + 1), .bool lz, .int .i64 (nn lz)] 60) from HT.out)
                  have hz2 : dd.tmod 5 = z := by rw [Int.tmod_eq_emod_of_nonneg hd0]; exact HZ.out
                  have hz1 := HZ.out
                  have hwz : IntKind.i64.wrap (z : Int) = z := IntWalk.i64_in (z : Int) (by omega)
                  clear w0' w1' w2' w3' wf y0 y2 yf b0
                  go_region_held3 (fun w' => w'.cell? ⟨xb, 1, none⟩ = some (.int .u64 (n : Int)) ∧ w'.cell? ⟨xb, 3, none⟩ = some (.int .u8 dd) ∧ w'.cell? ⟨lb, 0, none⟩ = some (.pointer x0) ∧ w'.cell? ⟨lb, 1, none⟩ = some (.pointer x1) ∧ w'.cell? ⟨lb, 2, none⟩ = some (.pointer x2) ∧ w'.cell? ⟨lb, 3, none⟩ = some (.pointer x3)) (first | exact ⟨j1, j3, i0, i1, i2, i3⟩ | exact ⟨k1, k3, p0, p1, p2, p3⟩ | go_keep) (first
                    | (go_at_call 11; refine hat.out.mono ?_; rintro e w2 ⟨rfl, hb2⟩; have hI2 := HI1.out.below hb2; have HT2 := Lib.hid (Below.heap' hb2 HT1.out); have hswap := Lib.hid (hI2.swap_yesU (by omega) z); obtain ⟨_, ⟨k0, k1, k2, k3, k4⟩⟩ := hI2.cells; obtain ⟨p0, p1, p2, p3, _⟩ := hI2.pl.cells; clear hb2 hI2)
                    | (go_at_call 15; refine hswap.out.mono ?_; rintro e w3 ⟨rfl, hI3, hu3⟩; have HT3 := Lib.hid (hu3.heap HT2.out HOT.out.out); obtain ⟨_, ⟨j0, j1, j2, j3, j4⟩⟩ := hI3.cells; obtain ⟨i0, i1, i2, i3, _⟩ := hI3.pl.cells; replace hI3 := Lib.hid hI3; clear hu3))
                  all_goals
                    go_wp2_with fail
                    go_meet
                    exact ⟨rfl, hI3.out, HT3.out⟩
                case rest =>
                  clear HI HT
                  obtain ⟨rfl, hI, hT⟩ := hcut
                  have t0 : wc.cell? ⟨tb, 0, none⟩ = some (.int .i64 z) := by rw [cell_of_heap hT]; rfl
                  have t1 : wc.cell? ⟨tb, 1, none⟩ = some (.int .u64 ((n : Int) + 1)) := by rw [cell_of_heap hT]; rfl
                  have t2 : wc.cell? ⟨tb, 2, none⟩ = some (.bool lz) := by rw [cell_of_heap hT]; rfl
                  have t3 : wc.cell? ⟨tb, 3, none⟩ = some (.int .i64 (nn lz)) := by rw [cell_of_heap hT]; rfl
                  have HI := Lib.hid hI
                  clear hI hT
                  obtain ⟨⟨w0', w1', w2', w3', wf⟩, _⟩ := HI.out.cells
                  have HS := Lib.hid (HI.out.setW z (n + 1) (nn lz))
                  rw [show ((n + 1 : Nat) : Int) = (n : Int) + 1 by omega] at HS
                  obtain ⟨⟨_, _, _, v3, _⟩, _⟩ := HS.out.cells
                  obtain ⟨_, _, _, _, vb⟩ := HS.out.pl.cells
                  go_wp2_with fail
                  go_roundg (len - (k + 1))
                  case measure => omega
                  case rel => exact ⟨k + 1, z, n + 1, nn lz, rfl, by omega, by go_num, by omega, by omega, HS.out.pl, HS.out.hw⟩
              ·
                have hv1 : (V' == (n : Int)) = false := beq_eq_false_iff_ne.2 hV
                have hv2 : ((n : Int) == V') = false := beq_eq_false_iff_ne.2 (fun h => hV h.symm)
                have HVF := Lib.hid hv2
                have hsw := fun W => ref_swap D n V' z lz (nn lz) W (by omega)
                rw [if_neg (fun h => hV h.symm), if_neg (fun h => hV h.symm), hv2] at hsw
                clear hv2
                replace hV := Lib.hid hV
                obtain ⟨⟨w0', w1', w2', w3', wf⟩, ⟨y0, y1, y2, y3, yf⟩⟩ := HI.out.cells
                obtain ⟨m0, m1, m2, m3, b0⟩ := HI.out.pl.cells
                have hz1 := HZ.out
                have hc := Lib.hid (HI.out.quiet (hsw _))
                clear hsw
                go_wp2_with fail
                refine hc.out.mono ?_
                clear hc HI hz1 w0' w1' w2' w3' wf y0 y1 y2 y3 yf m0 m1 m2 m3 b0
                rintro e wn ⟨rfl, hI⟩
                have HT := Lib.hid (heap_alloc_new wn (.cells #[.int .i64 D, .int .u64 n, .bool lz, .int .i64 (nn lz)] 60))
                have HOT := Lib.hid (hI.pl.own (b := wn.heap.size) (Nat.le_refl _))
                have htw : wn.heap.size ≠ wb := by have := heap_lt hI.hw; omega
                have HI := Lib.hid (hI.below ((Below.refl _ _).alloc (Nat.le_refl _) (.cells #[.int .i64 D, .int .u64 n, .bool lz, .int .i64 (nn lz)] 60)))
                clear hI
                go_upto_region 23 with fail
                generalize wn.alloc (.cells #[.int .i64 D, .int .u64 n, .bool lz, .int .i64 (nn lz)] 60) = w12 at *
                generalize wn.heap.size = tb at *
                go_cut [90] (fun v wx => v = .bool false ∧ PW w wx ab lb kb c r wb xb x0 x1 x2 x3 q lz D n (nn lz) D n (nn lz) 0 V' now dd ∧ wx.heap[tb]? = some (.cells #[.int .i64 D, .int .u64 n, .bool lz, .int .i64 (nn lz)] 60))
                case first =>
                  obtain ⟨⟨w0', w1', w2', w3', wf⟩, ⟨y0, y1, y2, y3, yf⟩⟩ := HI.out.cells
                  obtain ⟨m0, m1, m2, m3, b0⟩ := HI.out.pl.cells
                  have HI1 := Lib.hid (HI.out.below (Below.refl _ _).drew)
                  have hat := Lib.hid (at_any x0 x1 x2 x3 z (by omega) w12.drew)
                  have HT1 := Lib.hid (show w12.drew.heap[tb]? = some (.cells #[.int .i64 D, .int .u64 n, .bool lz, .int .i64 (nn lz)] 60) from HT.out)
                  have hz2 : dd.tmod 5 = z := by rw [Int.tmod_eq_emod_of_nonneg hd0]; exact HZ.out
                  have hz1 := HZ.out
                  have hwz : IntKind.i64.wrap (z : Int) = z := IntWalk.i64_in (z : Int) (by omega)
                  clear w0' w1' w2' w3' wf y0 y2 yf b0
                  go_region_held3 (fun w' => w'.cell? ⟨xb, 1, none⟩ = some (.int .u64 V') ∧ w'.cell? ⟨xb, 3, none⟩ = some (.int .u8 dd) ∧ w'.cell? ⟨lb, 0, none⟩ = some (.pointer x0) ∧ w'.cell? ⟨lb, 1, none⟩ = some (.pointer x1) ∧ w'.cell? ⟨lb, 2, none⟩ = some (.pointer x2) ∧ w'.cell? ⟨lb, 3, none⟩ = some (.pointer x3)) (first | exact ⟨j1, j3, i0, i1, i2, i3⟩ | exact ⟨k1, k3, p0, p1, p2, p3⟩ | go_keep) (first
                    | (go_at_call 11; refine hat.out.mono ?_; rintro e w2 ⟨rfl, hb2⟩; have hI2 := HI1.out.below hb2; have HT2 := Lib.hid (Below.heap' hb2 HT1.out); have hswap := Lib.hid (hI2.stepU (hI2.pl.Swap_no V' HVF.out (dsel x0 x1 x2 x3 z))); obtain ⟨_, ⟨k0, k1, k2, k3, k4⟩⟩ := hI2.cells; obtain ⟨p0, p1, p2, p3, _⟩ := hI2.pl.cells; clear hb2 hI2)
                    | (go_at_call 15; refine hswap.out.mono ?_; rintro e w3 ⟨rfl, hI3, hu3⟩; have HT3 := Lib.hid (hu3.heap HT2.out HOT.out.out); obtain ⟨_, ⟨j0, j1, j2, j3, j4⟩⟩ := hI3.cells; obtain ⟨i0, i1, i2, i3, _⟩ := hI3.pl.cells; replace hI3 := Lib.hid hI3; clear hu3))
                  all_goals
                    go_wp2_with fail
                    go_meet
                    exact ⟨rfl, hI3.out, HT3.out⟩
                case rest =>
                  clear HI HT
                  obtain ⟨rfl, hI, hT⟩ := hcut
                  have t0 : wc.cell? ⟨tb, 0, none⟩ = some (.int .i64 D) := by rw [cell_of_heap hT]; rfl
                  have t1 : wc.cell? ⟨tb, 1, none⟩ = some (.int .u64 n) := by rw [cell_of_heap hT]; rfl
                  have t2 : wc.cell? ⟨tb, 2, none⟩ = some (.bool lz) := by rw [cell_of_heap hT]; rfl
                  have t3 : wc.cell? ⟨tb, 3, none⟩ = some (.int .i64 (nn lz)) := by rw [cell_of_heap hT]; rfl
                  have HI := Lib.hid hI
                  clear hI hT
                  obtain ⟨⟨w0', w1', w2', w3', wf⟩, _⟩ := HI.out.cells
                  have HS := Lib.hid (HI.out.setW D n (nn lz))
                  obtain ⟨⟨_, _, _, v3, _⟩, _⟩ := HS.out.cells
                  obtain ⟨_, _, _, _, vb⟩ := HS.out.pl.cells
                  go_wp2_with fail
                  go_roundg (len - (k + 1))
                  case measure => omega
                  case rel => exact ⟨k + 1, D, n, nn lz, rfl, by omega, by go_num, by omega, by omega, HS.out.pl, HS.out.hw⟩
          by_cases hdo : dó = 1
          ·
            subst hdo
            obtain ⟨⟨w0', w1', w2', w3', wf⟩, ⟨y0, y1, y2, y3, yf⟩⟩ := HI.out.cells
            go_upto_if 61 with fail
            clear w0' w1' w2' w3' wf y0 y1 y2 y3 yf
            go_cut [12] (fun iv wx => iv = .int .i64 k ∧ PW w wx ab lb kb c r wb xb x0 x1 x2 x3 q lz D n m D n (nn lz) 1 V' now dd)
            case first =>
              have hask := fun W => ref_ask D n lz m W
              rw [hmr] at hask
              have hc := Lib.hid (HI.out.quiet (hask _))
              clear hask
              obtain ⟨⟨w0', w1', w2', w3', wf⟩, ⟨y0, y1, y2, y3, yf⟩⟩ := HI.out.cells
              go_wp2_with fail
              refine hc.out.mono ?_
              clear hc HI w0' w1' w2' w3' wf y0 y1 y2 y3 yf
              rintro e wn ⟨rfl, hI⟩
              have HI := Lib.hid hI
              clear hI
              obtain ⟨⟨w0', w1', w2', w3', wf⟩, ⟨y0, y1, y2, y3, yf⟩⟩ := HI.out.cells
              have HS := Lib.hid (HI.out.setW D n (nn lz))
              go_wp2_with fail
              go_meet
              exact ⟨rfl, HS.out⟩
            case rest =>
              clear HI
              obtain ⟨rfl, hI⟩ := hcut
              have HI := Lib.hid hI
              clear hI
              obtain ⟨⟨w0', w1', w2', w3', wf⟩, ⟨y0, y1, y2, y3, yf⟩⟩ := HI.out.cells
              obtain ⟨m0, m1, m2, m3, b0⟩ := HI.out.pl.cells
              have hc := Lib.hid (HI.out.step HI.out.pl.Load)
              go_wp2_with fail
              refine hc.out.mono ?_
              clear hc HI w0' w1' w2' w3' wf y0 y1 y2 y3 yf m0 m1 m2 m3 b0
              rintro e wn ⟨rfl, hI⟩
              have HI := Lib.hid hI
              clear hI
              obtain ⟨⟨w0', w1', w2', w3', wf⟩, ⟨y0, y1, y2, y3, yf⟩⟩ := HI.out.cells
              obtain ⟨m0, m1, m2, m3, b0⟩ := HI.out.pl.cells
              have hc := Lib.hid (HI.out.quiet (at_any x0 x1 x2 x3 D (by omega) wn))
              go_wp2_with fail
              refine hc.out.mono ?_
              clear hc HI w0' w1' w2' w3' wf y0 y1 y2 y3 yf m0 m1 m2 m3 b0
              rintro e wn ⟨rfl, hI⟩
              have HI := Lib.hid hI
              clear hI
              have e1 := neq_dir
              obtain ⟨⟨w0', w1', w2', w3', wf⟩, ⟨y0, y1, y2, y3, yf⟩⟩ := HI.out.cells
              obtain ⟨m0, m1, m2, m3, b0⟩ := HI.out.pl.cells
              go_wp2_with fail
              go_roundg (len - (k + 1))
              case measure => omega
              case rel => exact ⟨k + 1, D, n, nn lz, rfl, by omega, by go_num, by omega, by omega, HI.out.pl, HI.out.hw⟩
          by_cases hdo : dó = 2
          ·
            subst hdo
            obtain ⟨⟨w0', w1', w2', w3', wf⟩, ⟨y0, y1, y2, y3, yf⟩⟩ := HI.out.cells
            go_upto_if 61 with fail
            clear w0' w1' w2' w3' wf y0 y1 y2 y3 yf
            go_cut [12] (fun iv wx => iv = .int .i64 k ∧ PW w wx ab lb kb c r wb xb x0 x1 x2 x3 q lz D n m D n (nn lz) 2 V' now dd)
            case first =>
              have hask := fun W => ref_ask D n lz m W
              rw [hmr] at hask
              have hc := Lib.hid (HI.out.quiet (hask _))
              clear hask
              obtain ⟨⟨w0', w1', w2', w3', wf⟩, ⟨y0, y1, y2, y3, yf⟩⟩ := HI.out.cells
              go_wp2_with fail
              refine hc.out.mono ?_
              clear hc HI w0' w1' w2' w3' wf y0 y1 y2 y3 yf
              rintro e wn ⟨rfl, hI⟩
              have HI := Lib.hid hI
              clear hI
              obtain ⟨⟨w0', w1', w2', w3', wf⟩, ⟨y0, y1, y2, y3, yf⟩⟩ := HI.out.cells
              have HS := Lib.hid (HI.out.setW D n (nn lz))
              go_wp2_with fail
              go_meet
              exact ⟨rfl, HS.out⟩
            case rest =>
              clear HI
              obtain ⟨rfl, hI⟩ := hcut
              have HI := Lib.hid hI
              clear hI
              obtain ⟨_, ⟨y0, _⟩⟩ := HI.out.cells
              go_upto_region 31 with fail
              clear y0
              go_cut [122] (fun v wx => v = .bool false ∧ PW w wx ab lb kb c r wb xb x0 x1 x2 x3 q lz D n (nn lz) D n (nn lz) 2 V' now dd)
              case first =>
                obtain ⟨⟨w0', w1', w2', w3', wf⟩, ⟨y0, y1, y2, y3, yf⟩⟩ := HI.out.cells
                have hI1 := HI.out.below (Below.refl _ _).drew
                have hval := hI1.step (hI1.pl.Valid V')
                by_cases hV : V' = (n : Int)
                · subst hV
                  rw [beq_self_eq_true] at hval
                  replace hval := Lib.hid hval
                  clear hI1 w0' w2' w3' wf y0 y2 y3 yf
                  go_region_held3 (fun w' => w'.cell? ⟨xb, 1, none⟩ = some (.int .u64 (n : Int)) ∧ w'.cell? ⟨wb, 1, none⟩ = some (.int .u64 (n : Int))) (first | exact ⟨j1, i1⟩ | go_keep) (first
                    | (go_at_call 17; refine hval.out.mono ?_; rintro e w3 ⟨rfl, hI3⟩; obtain ⟨⟨i0, i1, i2, i3, i4⟩, ⟨j0, j1, j2, j3, j4⟩⟩ := hI3.cells; replace hI3 := Lib.hid hI3))
                  all_goals
                    go_wp2_with fail
                    go_meet
                    exact ⟨rfl, hI3.out⟩
                · have hv1 : (V' == (n : Int)) = false := beq_eq_false_iff_ne.2 hV
                  have hv2 : ((n : Int) == V') = false := beq_eq_false_iff_ne.2 (fun h => hV h.symm)
                  rw [hv2] at hval
                  replace hval := Lib.hid hval
                  replace hV := Lib.hid hV
                  clear hI1 hv2 w0' w2' w3' wf y0 y2 y3 yf
                  go_region_held3 (fun w' => w'.cell? ⟨xb, 1, none⟩ = some (.int .u64 V') ∧ w'.cell? ⟨wb, 1, none⟩ = some (.int .u64 (n : Int))) (first | exact ⟨j1, i1⟩ | go_keep) (first
                    | (go_at_call 17; refine hval.out.mono ?_; rintro e w3 ⟨rfl, hI3⟩; obtain ⟨⟨i0, i1, i2, i3, i4⟩, ⟨j0, j1, j2, j3, j4⟩⟩ := hI3.cells; replace hI3 := Lib.hid hI3))
                  all_goals
                    go_wp2_with fail
                    go_meet
                    exact ⟨rfl, hI3.out⟩
              case rest =>
                clear HI
                obtain ⟨rfl, hI⟩ := hcut
                have HI := Lib.hid hI
                clear hI
                obtain ⟨⟨w0', w1', w2', w3', wf⟩, ⟨y0, y1, y2, y3, yf⟩⟩ := HI.out.cells
                obtain ⟨m0, m1, m2, m3, b0⟩ := HI.out.pl.cells
                go_wp2_with fail
                go_roundg (len - (k + 1))
                case measure => omega
                case rel => exact ⟨k + 1, D, n, nn lz, rfl, by omega, by go_num, by omega, by omega, HI.out.pl, HI.out.hw⟩
          by_cases hdo : dó = 3
          ·
            subst hdo
            obtain ⟨⟨w0', w1', w2', w3', wf⟩, ⟨y0, y1, y2, y3, yf⟩⟩ := HI.out.cells
            go_upto_if 61 with fail
            clear w0' w1' w2' w3' wf y0 y1 y2 y3 yf
            go_cut [12] (fun iv wx => iv = .int .i64 k ∧ PW w wx ab lb kb c r wb xb x0 x1 x2 x3 q lz D n m D n (nn lz) 3 V' now dd)
            case first =>
              have hask := fun W => ref_ask D n lz m W
              rw [hmr] at hask
              have hc := Lib.hid (HI.out.quiet (hask _))
              clear hask
              obtain ⟨⟨w0', w1', w2', w3', wf⟩, ⟨y0, y1, y2, y3, yf⟩⟩ := HI.out.cells
              go_wp2_with fail
              refine hc.out.mono ?_
              clear hc HI w0' w1' w2' w3' wf y0 y1 y2 y3 yf
              rintro e wn ⟨rfl, hI⟩
              have HI := Lib.hid hI
              clear hI
              obtain ⟨⟨w0', w1', w2', w3', wf⟩, ⟨y0, y1, y2, y3, yf⟩⟩ := HI.out.cells
              have HS := Lib.hid (HI.out.setW D n (nn lz))
              go_wp2_with fail
              go_meet
              exact ⟨rfl, HS.out⟩
            case rest =>
              clear HI
              obtain ⟨rfl, hI⟩ := hcut
              have HI := Lib.hid hI
              clear hI
              obtain ⟨_, ⟨y0, _⟩⟩ := HI.out.cells
              go_upto_region 34 with fail
              clear y0
              go_cut [129] (fun v wx => v = .bool false ∧ PW w wx ab lb kb c r wb xb x0 x1 x2 x3 q lz D n (nn lz) D n (nn lz) 3 V' now dd)
              case first =>
                obtain ⟨⟨w0', w1', w2', w3', wf⟩, ⟨y0, y1, y2, y3, yf⟩⟩ := HI.out.cells
                have hI1 := HI.out.below (Below.refl _ _).drew
                have hval := Lib.hid (hI1.step hI1.pl.Version)
                clear hI1 w0' w2' w3' wf y0 y1 y2 y3 yf
                go_region_held3 (fun w' => w'.cell? ⟨wb, 1, none⟩ = some (.int .u64 (n : Int))) (first | exact i1 | go_keep) (first
                  | (go_at_call 16; refine hval.out.mono ?_; rintro e w3 ⟨rfl, hI3⟩; obtain ⟨⟨i0, i1, i2, i3, i4⟩, _⟩ := hI3.cells; replace hI3 := Lib.hid hI3))
                all_goals
                  go_wp2_with fail
                  go_meet
                  exact ⟨rfl, hI3.out⟩
              case rest =>
                clear HI
                obtain ⟨rfl, hI⟩ := hcut
                have HI := Lib.hid hI
                clear hI
                obtain ⟨⟨w0', w1', w2', w3', wf⟩, ⟨y0, y1, y2, y3, yf⟩⟩ := HI.out.cells
                obtain ⟨m0, m1, m2, m3, b0⟩ := HI.out.pl.cells
                go_wp2_with fail
                go_roundg (len - (k + 1))
                case measure => omega
                case rel => exact ⟨k + 1, D, n, nn lz, rfl, by omega, by go_num, by omega, by omega, HI.out.pl, HI.out.hw⟩
          have z0 : (dó == 0) = false := beq_eq_false_iff_ne.2 (by omega)
          have z1 : (dó == 1) = false := beq_eq_false_iff_ne.2 (by omega)
          have z2 : (dó == 2) = false := beq_eq_false_iff_ne.2 (by omega)
          have z3 : (dó == 3) = false := beq_eq_false_iff_ne.2 (by omega)
          clear hmr
          by_cases h0 : 0 ≤ dó
          ·
            have h3 : decide (dó ≤ 3) = false := by simp; omega
            obtain ⟨⟨w0', w1', w2', w3', wf⟩, ⟨y0, y1, y2, y3, yf⟩⟩ := HI.out.cells
            obtain ⟨m0, m1, m2, m3, b0⟩ := HI.out.pl.cells
            go_wp2_with fail
            go_roundg (len - (k + 1))
            case measure => omega
            case rel => exact ⟨k + 1, D, n, m, rfl, by omega, by go_num, by omega, by omega, HI.out.pl, HI.out.hw⟩
          ·
            have h3 : decide (0 ≤ dó) = false := by simp; omega
            obtain ⟨⟨w0', w1', w2', w3', wf⟩, ⟨y0, y1, y2, y3, yf⟩⟩ := HI.out.cells
            obtain ⟨m0, m1, m2, m3, b0⟩ := HI.out.pl.cells
            go_wp2_with fail
            go_roundg (len - (k + 1))
            case measure => omega
            case rel => exact ⟨k + 1, D, n, m, rfl, by omega, by go_num, by omega, by omega, HI.out.pl, HI.out.hw⟩
      · obtain rfl : k = len := by omega
        have e1 := eq_dir
        obtain ⟨m0, m1, m2, m3, b0⟩ := HI.out.cells
        have w0' : wr.cell? ⟨wb, 0, none⟩ = some (.int .i64 D) := by rw [cell_of_heap HW.out]; rfl
        have hc := Lib.hid HI.out.Load
        go_wp2_with fail
        refine hc.out.mono ?_
        clear hc HI m0 m1 m2 m3 b0 w0'
        rintro e wn ⟨rfl, hI, hu⟩
        have HI := Lib.hid hI
        have HW2 := Lib.hid (hu.heap HW.out HO.out.out)
        clear hI hu HW
        obtain ⟨m0, m1, m2, m3, b0⟩ := HI.out.cells
        have w0' : wn.cell? ⟨wb, 0, none⟩ = some (.int .i64 D) := by rw [cell_of_heap HW2.out]; rfl
        go_wp2_with fail
        refine (at_any x0 x1 x2 x3 D (by omega) wn).mono ?_
        rintro e w3 ⟨rfl, hb⟩
        have HB := Lib.hid (HI.out.below hb).bel
        have hW3 := Below.heap' hb HW2.out
        have w1' : w3.cell? ⟨wb, 1, none⟩ = some (.int .u64 n) := by rw [cell_of_heap hW3]; rfl
        clear hb m0 m1 m2 m3 b0 w0' hW3
        go_wp2_with fail
        go_ret
        exact ⟨rfl, HB.out⟩
end Go.Proofs.Ytmmnheobpbmniaa
