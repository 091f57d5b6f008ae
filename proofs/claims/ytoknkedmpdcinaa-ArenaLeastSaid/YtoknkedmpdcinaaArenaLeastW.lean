/- The walk of the law ArenaLeast: for any size and any steps it returns true. -/
import Derived.Test.YtoknkedmpdcinaaArenaTwoW
namespace Go.Proofs.Ytoknkedmpdcinaa
open Go.RowKit
set_option maxHeartbeats 1000000 in
theorem leastLaw_walk (a : Int) (s : Option Addr) (len cap : Nat) (rows : List (List Value)) (w : World) (ha : (Lit.int .u8 a).wf = true) (hr : IsFlat [.inl .u8] w s len rows) :
    Calls Try.prog 3 #[.int .u8 a, .slice s len cap] w fun e w' => e = .returned (.bool true) ∧ Below w.heap.size w w' := by
  obtain ⟨a0, a1⟩ := bounds_u8 ha
  clear ha
  by_cases hl : 300 < len
  · go_enter Try.func3, Try.ntmps3
    go_wp2_with fail
    refine (awake2_any _).mono ?_
    rintro e w1 ⟨rfl, hb1⟩
    go_wp2_with fail
    go_ret
    exact ⟨rfl, hb1⟩
  obtain ⟨m, hm, hm'⟩ : ∃ m : Nat, a % 64 = m ∧ m < 64 := ⟨(a % 64).toNat, by omega, by omega⟩
  go_enter Try.func3, Try.ntmps3
  go_wp2_with fail
  refine (awake2_any _).mono ?_
  rintro e w1 ⟨rfl, hb1⟩
  have hr1 : IsFlat [.inl .u8] w1 s len rows := hr.below hb1
  have HB1 := Lib.hid hb1
  clear hb1 hr
  replace hr1 := Lib.hid hr1
  go_wp2_with fail
  rw [show (1 : Int) + (m : Int) = ((1 + m : Nat) : Int) by omega]
  refine (two_walk (1 + m) s len cap rows w1 hr1.out (by omega) (by omega) (by omega)).mono ?_
  rintro e w2 ⟨base, R, p, g, f, ms, aa, am, ba, bm, tv, hs, gens, free, LA, LB, cA, cB, S, cs, rfl, hK, hI⟩
  have hB2 := Lib.hid (HB1.out.trans (hI.bel.mono HB1.out.size))
  clear hK hI
  go_wp2_with fail
  go_ret
  exact ⟨rfl, hB2.out⟩
end Go.Proofs.Ytoknkedmpdcinaa
