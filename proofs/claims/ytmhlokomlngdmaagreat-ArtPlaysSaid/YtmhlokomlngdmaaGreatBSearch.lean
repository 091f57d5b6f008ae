/- slices.BinarySearch at bytes. -/
import Derived.Test.YtmhlokomlngdmaaGreatAtK
import Derived.Test.YtmhlokomlngdmaaGreatChecked
import Derived.StillTailTactics
import Derived.WalkLawsBesides
import Derived.WalkSpells
import Derived.Outline
import Derived.BigQuiet
import Derived.WalkSmall
import Derived.RegionTactic
import Derived.IntWalk
import Derived.Deep.LoopGhost
import Derived.Deep.DeepCutAuto
import Derived.Deep.CutBlock
import Derived.LoopTactic
namespace Go.Proofs.YtmhlokomlngdmaaGreat
open Go.RowKit
def lowB (L : List UInt8) (b : UInt8) : Nat := (L.filter fun x => decide (x < b)).length
theorem lowB_of {b : UInt8} : ∀ {L : List UInt8} {i : Nat}, i ≤ L.length → (∀ k x, k < i → L[k]? = some x → x < b) → (∀ k x, i ≤ k → L[k]? = some x → ¬ x < b) → lowB L b = i
  | [], i, hi, _, _ => by simp at hi; subst hi; rfl
  | x :: L, 0, _, _, h => by
    unfold lowB
    rw [filter_none fun y hy => ?_]
    · rfl
    · obtain ⟨k, hk⟩ := List.mem_iff_getElem?.1 hy
      exact decide_eq_false (h k y (Nat.zero_le _) hk)
  | x :: L, i + 1, hi, h1, h2 => by
    have ih := lowB_of (b := b) (L := L) (i := i) (by simp at hi; omega) (fun k y hk hy => h1 (k + 1) y (by omega) (by simpa using hy)) (fun k y hk hy => h2 (k + 1) y (by omega) (by simpa using hy))
    unfold lowB at ih ⊢
    rw [List.filter_cons, if_pos (by simpa using h1 0 x (by omega) rfl), List.length_cons, ih]
theorem u8_lt_int (x y : UInt8) : decide ((x.toNat : Int) < (y.toNat : Int)) = decide (x < y) := by
  have := UInt8.lt_iff_toNat_lt (a := x) (b := y)
  by_cases h : x < y
  · rw [decide_eq_true h, decide_eq_true (by have := this.1 h; omega)]
  · rw [decide_eq_false h, decide_eq_false (by intro h'; exact h (this.2 (by omega)))]
theorem u8_eq_int (x y : UInt8) : ((x.toNat : Int) == (y.toNat : Int)) = decide (x = y) := by
  by_cases h : x = y
  · subst h; simp
  · have : ¬ (x.toNat : Int) = (y.toNat : Int) := fun e => h (UInt8.toNat_inj.1 (by omega))
    rw [decide_eq_false h]
    simpa using this
theorem cmpIsNaNB_any (x : Int) (w : World) : Calls Tryz.prog 134 #[.int .u8 x] w fun e w' => e = .returned (.bool false) ∧ w = w' := by
  go_enter Tryz.func134, Tryz.ntmps134
  go_wp2_with fail
  go_ret
  exact ⟨by simp, rfl⟩
theorem slIsNaNB_any (x : Int) (w : World) : Calls Tryz.prog 129 #[.int .u8 x] w fun e w' => e = .returned (.bool false) ∧ w = w' := by
  go_enter Tryz.func129, Tryz.ntmps129
  go_wp2_with fail
  go_ret
  exact ⟨by simp, rfl⟩
theorem lessB_any (x y : UInt8) (w : World) : Calls Tryz.prog 128 #[.int .u8 x.toNat, .int .u8 y.toNat] w fun e w' => e = .returned (.bool (decide (x < y))) ∧ w = w' := by
  rw [← u8_lt_int]
  go_enter Tryz.func128, Tryz.ntmps128
  go_wp2_with fail
  refine (cmpIsNaNB_any _ w).mono ?_
  rintro e w1 ⟨rfl, rfl⟩
  go_wp2_with fail
  go_ret
  exact ⟨by simp, rfl⟩
set_option maxRecDepth 100000 in
set_option maxHeartbeats 1000000 in
theorem bsearch_any (a : Option Addr) (c : Nat) (L : List UInt8) (b : UInt8) (w : World) (h : At w 1 bcel a c L) (hs : L.Pairwise fun x y => x < y) (hL : L.length ≤ 100000) :
    Calls Tryz.prog 123 #[.slice a L.length c, .int .u8 b.toNat] w fun e w' => e = .returned (.tuple #[.int .i64 (lowB L b), .bool (decide (b ∈ L))]) ∧ w = w' := by
  have hcl := Lib.hid fun (hn : 0 < L.length) => h.byte hn
  have hsl : Hid (∀ (i j : Nat) x y, i < j → L[i]? = some x → L[j]? = some y → x < y) := Lib.hid fun i j x y hij hx hy => by
    obtain ⟨h1, h2⟩ := List.getElem?_eq_some_iff.1 hx
    obtain ⟨h3, h4⟩ := List.getElem?_eq_some_iff.1 hy
    rw [← h2, ← h4]
    exact List.pairwise_iff_getElem.1 hs i j h1 h3 hij
  clear h hs
  obtain ⟨n, hn⟩ : ∃ n, n = L.length := ⟨_, rfl⟩
  rw [← hn] at hL ⊢
  replace hn := Lib.hid hn
  obtain ⟨pv, hpv⟩ : ∃ pv, pv = lowB L b := ⟨_, rfl⟩
  obtain ⟨pf, hpf⟩ : ∃ pf, pf = decide (b ∈ L) := ⟨_, rfl⟩
  rw [← hpv, ← hpf]
  replace hpv := Lib.hid hpv
  replace hpf := Lib.hid hpf
  go_enter Tryz.func123, Tryz.ntmps123
  go_wp2_with fail
  go_loopg [7, 8] n (fun gk vi vj wr => ∃ i j : Nat, gk = j - i ∧ i ≤ j ∧ j ≤ n ∧ vi = .int .i64 i ∧ vj = .int .i64 j ∧ (∀ k x, k < i → L[k]? = some x → x < b) ∧ (∀ k x, j ≤ k → L[k]? = some x → ¬ x < b) ∧ w = wr)
  case atStart => exact ⟨0, n, rfl, Nat.zero_le _, Nat.le_refl _, rfl, rfl, fun k x hk => by omega, fun k x hk hx => by have := (List.getElem?_eq_some_iff.1 hx).1; have := hn.out; omega, rfl⟩
  case round =>
    obtain ⟨i, j, rfl, hij, hjn, rfl, rfl, hlo, hhi, rfl⟩ := hrel
    replace hlo := Lib.hid hlo
    replace hhi := Lib.hid hhi
    by_cases hlt : i < j
    · have hh : (i + j) / 2 < L.length := by have := hn.out; omega
      obtain ⟨x, hx⟩ : ∃ x, L[(i + j) / 2]? = some x := ⟨_, List.getElem?_eq_getElem hh⟩
      obtain ⟨g, o, rfl, hg, hcn, hcx, hgc⟩ := hcl.out (by omega)
      have k0 := hgc _ _ hx
      have hq := block_lt_of_cell k0
      have hA1 : (i : Int) < (j : Int) := by omega
      have hsum : IntKind.i64.wrap ((i : Int) + (j : Int)) = ((i + j : Nat) : Int) := by rw [IntWalk.i64_in _ (by omega)]; omega
      replace hgc := Lib.hid hgc
      replace hx := Lib.hid hx
      have hw1 : IntKind.i64.wrap (((i : Int) + (j : Int)) / 2 + 1) = ((i : Int) + (j : Int)) / 2 + 1 := IntWalk.i64_in _ (by omega)
      have hcast : ((i : Int) + (j : Int)) / 2 = (((i + j) / 2 : Nat) : Int) := by omega
      replace hcast := Lib.hid hcast
      replace hcl := Lib.hid hcl
      have hlx := Lib.hid (lessB_any x b w)
      by_cases hxb : x < b
      · rw [decide_eq_true hxb] at hlx
        have hlo' : Hid (∀ k y, k < (i + j) / 2 + 1 → L[k]? = some y → y < b) := Lib.hid fun k y hk hy => by
          by_cases e : k = (i + j) / 2
          · subst e
            rw [hx.out] at hy
            injection hy with hy
            rw [← hy]; exact hxb
          · exact UInt8.lt_trans (hsl.out k _ y x (by omega) hy hx.out) hxb
        replace hxb := Lib.hid hxb
        go_wp2_with fail
        refine hlx.out.mono ?_
        clear hlx
        rintro e w1 ⟨rfl, rfl⟩
        go_wp2_with fail
        go_roundg (j - ((i + j) / 2 + 1))
        case rel => exact ⟨(i + j) / 2 + 1, j, rfl, by omega, hjn, by rw [hcast.out]; rfl, rfl, hlo'.out, hhi.out, rfl⟩
        case measure => omega
      · rw [decide_eq_false hxb] at hlx
        have hhi' : Hid (∀ k y, (i + j) / 2 ≤ k → L[k]? = some y → ¬ y < b) := Lib.hid fun k y hk hy => by
          by_cases e : k = (i + j) / 2
          · subst e
            rw [hx.out] at hy
            injection hy with hy
            rw [← hy]; exact hxb
          · exact fun hh => hxb (UInt8.lt_trans (hsl.out _ k x y (by omega) hx.out hy) hh)
        replace hxb := Lib.hid hxb
        go_wp2_with fail
        refine hlx.out.mono ?_
        clear hlx
        rintro e w1 ⟨rfl, rfl⟩
        go_wp2_with fail
        go_roundg ((i + j) / 2 - i)
        case rel => exact ⟨i, (i + j) / 2, rfl, by omega, by omega, rfl, by rw [hcast.out], hlo.out, hhi'.out, rfl⟩
        case measure => omega
    · obtain rfl : i = j := by omega
      have hlow : Hid (pv = i) := Lib.hid (by rw [hpv.out]; exact lowB_of (by have := hn.out; omega) hlo.out hhi.out)
      by_cases hin : i < n
      · obtain ⟨y, hy⟩ : ∃ y, L[i]? = some y := ⟨_, List.getElem?_eq_getElem (by have := hn.out; omega)⟩
        obtain ⟨g, o, rfl, hg, hcn, hcx, hgc⟩ := hcl.out (by have := hn.out; omega)
        have k0 := hgc _ _ hy
        have hq := block_lt_of_cell k0
        have hA1 : (i : Int) < (n : Int) := by omega
        have hmem : decide (b ∈ L) = decide (y = b) := by
          congr 1
          refine propext ⟨fun hb => ?_, fun e => by rw [← e]; exact List.mem_of_getElem? hy⟩
          obtain ⟨k, hk⟩ := List.mem_iff_getElem?.1 hb
          by_cases e : k = i
          · subst e; rw [hy] at hk; injection hk
          · by_cases hki : k < i
            · exact absurd (hlo.out k b hki hk) (UInt8.lt_irrefl _)
            · exact absurd (hsl.out i k y b (by omega) hy hk) (hhi.out i y (Nat.le_refl _) hy)
        have hyb := u8_eq_int y b
        have hn1 := Lib.hid (slIsNaNB_any y.toNat w)
        replace hgc := Lib.hid hgc
        replace hy := Lib.hid hy
        replace hcl := Lib.hid hcl
        by_cases e : y = b
        · rw [decide_eq_true e] at hyb hmem
          have hfin : Hid (pf = true) := Lib.hid (hpf.out.trans hmem)
          have e' : (y.toNat : Int) = (b.toNat : Int) := by simpa using hyb
          replace e := Lib.hid e
          replace hmem := Lib.hid hmem
          go_wp2_with fail
          go_ret2
          exact ⟨by rw [hlow.out, hfin.out]; rfl, rfl⟩
        · rw [decide_eq_false e] at hyb hmem
          have hfin : Hid (pf = false) := Lib.hid (hpf.out.trans hmem)
          replace hmem := Lib.hid hmem
          have e' : ¬ (y.toNat : Int) = (b.toNat : Int) := by simpa using hyb
          replace e := Lib.hid e
          go_wp2_with fail
          refine hn1.out.mono ?_
          clear hn1
          rintro e w1 ⟨rfl, rfl⟩
          go_wp2_with fail
          go_ret2
          exact ⟨by rw [hlow.out, hfin.out]; rfl, rfl⟩
      · obtain rfl : i = n := by omega
        have hmem : decide (b ∈ L) = false := decide_eq_false fun hb => by
          obtain ⟨k, hk⟩ := List.mem_iff_getElem?.1 hb
          exact absurd (hlo.out k b (by have := (List.getElem?_eq_some_iff.1 hk).1; have := hn.out; omega) hk) (UInt8.lt_irrefl _)
        have hfin : Hid (pf = false) := Lib.hid (hpf.out.trans hmem)
        have hA1 : ¬ (i : Int) < (i : Int) := by omega
        replace hcl := Lib.hid hcl
        clear hmem
        go_wp2_with fail
        go_ret2
        exact ⟨by rw [hlow.out, hfin.out]; rfl, rfl⟩
end Go.Proofs.YtmhlokomlngdmaaGreat
