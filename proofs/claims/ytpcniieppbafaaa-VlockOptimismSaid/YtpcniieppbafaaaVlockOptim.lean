/- The walk of the law VlockOptimism: for any word, any list of calls and any two places it returns true. -/
import Derived.Test.YtpcniieppbafaaaVlockWords
import Derived.Test.YtpcniieppbafaaaFlat
import Derived.OpenShut
namespace Go.Proofs.Ytpcniieppbafaaa
open Go.RowKit
open Vl
namespace Vl
/-- What holds of the cell's word x, of what was taken and ended, of the writes n and of what was begun. -/
def Opt (V0 : Nat) (x : Int) (t e : Bool) (n : Nat) (bg : Bool) (v0 : Int) (m : Nat) : Prop :=
  ∃ vv, vv < top ∧ x = mk vv e t ∧ (e = true → t = false) ∧ (e = false → vv = (V0 + n) % top) ∧ (bg = true → v0 = mk ((V0 + m) % top) false false ∧ m ≤ n)
theorem Opt.valid {V0 n m vv : Nat} {v0 : Int} (hn : n ≤ 300) (hvv : vv = (V0 + n) % top) (h : v0 = mk ((V0 + m) % top) false false ∧ m ≤ n) : (mk vv false false == v0) = ((n : Int) == (m : Int)) := by
  rw [h.1, mk_beq, hvv]
  have h2 := h.2
  unfold top
  by_cases hnm : n = m
  · simp [hnm]
  · have h1 : ((n : Int) == (m : Int)) = false := by rw [beq_eq_false_iff_ne]; omega
    rw [h1]
    simp only [BEq.rfl, Bool.and_true, decide_eq_false_iff_not]
    omega
theorem and_mask (vv : Nat) (h : vv < top) : bits BinOp.and IntKind.u64 (IntKind.u64.wrap ((vv : Int) + 1)) 4611686018427387903 = (nx vv : Int) := by
  rw [show IntKind.u64.wrap ((vv : Int) + 1) = ((vv + 1 : Nat) : Int) by unfold top at h; rw [IntKind.wrap_u64]; omega]
  rw [show (4611686018427387903 : Int) = ((4611686018427387903 : Nat) : Int) from rfl, and_nat _ _ (by unfold top at h; omega) (by decide), show (4611686018427387903 : Nat) = 2 ^ 62 - 1 by decide, Nat.and_two_pow_sub_one_eq_mod]
  rfl
theorem andNot_mk (v : Nat) (d l : Bool) (h : v < top) : bits BinOp.andNot IntKind.u64 (mk v d l) 1 = mk v d false := by
  unfold top at h
  unfold mk
  rw [show (1 : Int) = ((1 : Nat) : Int) from rfl, u64_andNot_nat _ _ (by cases d <;> cases l <;> simp <;> omega) (by decide), and_not1 _ (by cases d <;> cases l <;> simp <;> omega)]
  cases d <;> cases l <;> simp <;> omega
end Vl
theorem byte_row {w : World} {s : Option Addr} {len : Nat} {rows : List (List Value)} (hr : IsFlat [.inl .u8] w s len rows) :
    ∀ k, k < len → ∃ b off x, s = some ⟨b, off, none⟩ ∧ w.cell? ⟨b, off + k, none⟩ = some (.int .u8 x) ∧ 0 ≤ x ∧ x ≤ 255 := by
  intro k hk
  rcases hr with ⟨h0, _⟩ | ⟨b, off, hs, _, _, hb, hc⟩
  · omega
  obtain ⟨h1, h2⟩ := hc k hk
  have h3 := h2 0 (by simp)
  generalize rows.getD k [] = r at *
  obtain ⟨_, rfl, ⟨n, rfl, hn⟩⟩ := h1.of1
  exact ⟨b, off, n, hs, by simpa using h3, bounds_u8 hn⟩
set_option maxHeartbeats 1000000 in
theorem optim_long (a : Int) (s : Option Addr) (len cap : Nat) (hl : 300 < len) (fr to : Int) (w : World) :
    Calls Try.prog 8 #[.int .u64 a, .slice s len cap, .int .u16 fr, .int .u16 to] w fun e w' => e = .returned (.bool true) ∧ Below w.heap.size w w' := by
  go_enter Try.func8, Try.ntmps8
  go_wp2_with (first | (go_at_call 9; refine (awake_any _).mono ?_; rintro e w' ⟨rfl, rfl⟩))
  go_ret
  exact ⟨rfl, (Below.refl _ _).alloc (Nat.le_refl _) _⟩
set_option maxRecDepth 100000 in
set_option maxHeartbeats 16000000 in
theorem optim_mk (V0 : Nat) (d l : Bool) (hV : V0 < top) (s : Option Addr) (len cap : Nat) (rows : List (List Value)) (fr to : Int) (w : World) (hr : IsFlat [.inl .u8] w s len rows) (hl : len ≤ 300)
    (hfr : 0 ≤ fr ∧ fr ≤ 65535) (hto : 0 ≤ to ∧ to ≤ 65535) :
    Calls Try.prog 8 #[.int .u64 (mk V0 d l), .slice s len cap, .int .u16 fr, .int .u16 to] w fun e w' => e = .returned (.bool true) ∧ Below w.heap.size w w' := by
  have hro := Lib.hid (byte_row hr)
  clear hr
  have i1 : bits BinOp.andNot IntKind.u64 (mk V0 d l) 1 = mk V0 d false := andNot_mk V0 d l hV
  have i2 : ded (mk V0 d l) = d := ded_mk d l hV
  have hO : Opt V0 (mk V0 d false) false d 0 false 0 0 := ⟨V0, hV, rfl, fun _ => rfl, fun _ => by rw [Nat.add_zero, mod_top hV], fun h => by cases h⟩
  generalize mk V0 d l = a0 at *
  generalize mk V0 d false = a1 at *
  have HO := Lib.hid hO
  clear hO
  obtain ⟨hfr0, hfr1⟩ := hfr
  obtain ⟨hto0, hto1⟩ := hto
  go_enter Try.func8, Try.ntmps8
  go_wp2_with (first | (go_at_call 9; refine (awake_any _).mono ?_; rintro e w' ⟨rfl, rfl⟩) | (go_at_call 11; refine (cStore_any _ 0 _ _ ?_ ?_).mono ?_; (focus (first | assumption | go_simp)); (focus (first | assumption | go_simp)); rintro e w' ⟨rfl, rfl⟩) | (go_at_call 27; refine (vDead_any _ _).mono ?_; rintro e w' ⟨rfl, rfl⟩))
  go_loopw [10, 11, 12, 13, 14, 15, 16] (fun st se sn sv sb sm i wr => ∃ (k : Nat) (x : Int) (t e : Bool) (n : Nat) (bg : Bool) (v0 : Int) (m : Nat), k ≤ len ∧ i = .int .i64 k ∧ st = .bool t ∧ se = .bool e ∧ sn = .int .i64 n ∧ sv = .int .u64 v0 ∧ sb = .bool bg ∧ sm = .int .i64 m ∧ n ≤ k ∧ m ≤ k ∧ Opt V0 x t e n bg v0 m ∧ Below w.heap.size w wr ∧ wr.cell? ⟨w.heap.size + 1, 0, none⟩ = some (.int .u64 x) ∧ wr.frozen? ⟨w.heap.size + 1, 0, none⟩ = false) (fun _ _ _ _ _ _ i _ => len - (intOf i).toNat)
  case atStart => exact ⟨0, a1, false, d, 0, false, 0, 0, Nat.zero_le _, rfl, rfl, rfl, rfl, rfl, rfl, rfl, Nat.le_refl _, Nat.le_refl _, HO.out, ((Below.refl _ _).alloc (Nat.le_refl _) _).alloc (by simp) _, by go_simp, by go_simp⟩
  case round =>
    obtain ⟨k, x, t, e, n, bg, v0, m, hk, rfl, rfl, rfl, rfl, rfl, rfl, rfl, hnk, hmk, hO, hB, hc, hf⟩ := hrel
    clear HO
    by_cases hlt : k < len
    · obtain ⟨b, off, y, rfl, g0, hy0, hy1⟩ := hro.out k hlt
      replace g0 := keep hB g0
      have hs1 : w.heap.size + 1 < wr.heap.size := block_lt_of_cell hc
      clear hro
      obtain ⟨vv, hvv, hx, hte, hve, hbg⟩ := hO
      obtain ⟨qf, hqf⟩ : ∃ q : Bool, ((k : Int) == fr) = q := ⟨_, rfl⟩
      obtain ⟨qt, hqt⟩ : ∃ q : Bool, ((k : Int) == to) = q := ⟨_, rfl⟩
      cases t <;> cases e
      case true.true => cases hte rfl
      case false.false =>
        replace hve := hve rfl
        clear hte
        have hval : bg = true → (x == v0) = ((n : Int) == (m : Int)) := fun h => by rw [hx]; exact Opt.valid (by omega) hve (hbg h)
        have f1 : opn x = true := by rw [hx]; exact opn_mk _ _ hvv
        have f2 : lkd x = false := by rw [hx]; exact lkd_mk _ _ hvv
        have f3 : ded x = false := by rw [hx]; exact ded_mk _ _ hvv
        have f4 : ver x = vv := by rw [hx]; exact ver_mk _ _ hvv
        have f5 : lck x = mk vv false true := by rw [hx]; exact lck_mk hvv
        have f6 : lkd (mk vv false true) = true := lkd_mk _ _ hvv
        have f7 : ded (mk vv false true) = false := ded_mk _ _ hvv
        have f8 : ver (mk vv false true) = vv := ver_mk _ _ hvv
        have f9 : (lkd x && !ded x) = false := by rw [f2, f3]; rfl
        have f10 : xb x = x := by unfold xb; rw [f1]; rfl
        have OA := Lib.hid (show Opt V0 x false false n bg v0 m from ⟨vv, hvv, hx, fun h => (by cases h), fun _ => hve, hbg⟩)
        have OB := Lib.hid (show Opt V0 x false false n true x n from ⟨vv, hvv, hx, fun h => (by cases h), fun _ => hve, fun _ => ⟨by rw [hx, hve], Nat.le_refl _⟩⟩)
        have OC := Lib.hid (show Opt V0 (mk vv false true) true false n bg v0 m from ⟨vv, hvv, rfl, fun h => (by cases h), fun _ => hve, hbg⟩)
        have OD := Lib.hid (show Opt V0 (mk vv false true) true false n true x n from ⟨vv, hvv, rfl, fun h => (by cases h), fun _ => hve, fun _ => ⟨by rw [hx, hve], Nat.le_refl _⟩⟩)
        generalize mk vv false true = b1 at *
        obtain ⟨c1, _⟩ : ∃ c1 : Int, c1 = c1 := ⟨0, rfl⟩
        clear hx hve hbg
        cases bg <;> cases qf <;> cases qt
        all_goals
          as_aux_lemma =>
            first | (have hval := hval rfl) | clear hval
            go_wp2_with (first | (go_at_call 19; refine (cLoad_any _ x _ ?_).mono ?_; (focus (first | assumption | go_simp)); rintro e w' ⟨rfl, rfl⟩) | (go_at_call 19; refine (cLoad_any _ b1 _ ?_).mono ?_; (focus (first | assumption | go_simp)); rintro e w' ⟨rfl, rfl⟩) | (go_at_call 19; refine (cLoad_any _ c1 _ ?_).mono ?_; (focus (first | assumption | go_simp)); rintro e w' ⟨rfl, rfl⟩) | (go_at_call 20; refine (vBegin_all _ _).mono ?_; rintro e w' ⟨rfl, rfl⟩) | (go_at_call 22; refine (vValid_any _ _ _).mono ?_; rintro e w' ⟨rfl, rfl⟩) | (go_at_call 14; refine (cTake_yes _ x _ ?_ ?_ f1).mono ?_; (focus (first | assumption | go_simp)); (focus (first | assumption | go_simp)); rintro e w' ⟨rfl, rfl⟩) | (go_at_call 15; refine (cGive_no _ x _ ?_ f9).mono ?_; (focus (first | assumption | go_simp)); rintro e w' ⟨rfl, rfl⟩) | (go_at_call 17; refine (cEnd_no _ x _ ?_ f9).mono ?_; (focus (first | assumption | go_simp)); rintro e w' ⟨rfl, rfl⟩) | (go_at_call 26; refine (vLocked_any _ _).mono ?_; rintro e w' ⟨rfl, rfl⟩) | (go_at_call 27; refine (vDead_any _ _).mono ?_; rintro e w' ⟨rfl, rfl⟩) | (go_at_call 25; refine (vVersion_any _ _).mono ?_; rintro e w' ⟨rfl, rfl⟩))
            all_goals
              go_roundw
              case rel => exact ⟨k + 1, _, _, _, _, _, _, _, by omega, by go_num, rfl, rfl, rfl, rfl, rfl, rfl, by omega, by omega, by (first | exact OA.out | exact OB.out | exact OC.out | exact OD.out), by (repeat (first | exact hB | apply Below.drew | (refine Below.setCell ?_ (by simp) _))), by go_simp, by go_simp⟩
              case measure => simp [intOf]; omega
      case true.false =>
        replace hve := hve rfl
        clear hte
        have f1 : opn x = false := by rw [hx]; exact opn_mk _ _ hvv
        have f2 : lkd x = true := by rw [hx]; exact lkd_mk _ _ hvv
        have f3 : ded x = false := by rw [hx]; exact ded_mk _ _ hvv
        have f4 : ver x = vv := by rw [hx]; exact ver_mk _ _ hvv
        have f5 : unl x = mk (nx vv) false false := by rw [hx]; exact unl_mk false
        have f6 : kil1 x = mk (nx vv) true false := by rw [hx]; exact kil1_mk true hvv
        have f7 : lkd (mk (nx vv) false false) = false := lkd_mk _ _ (nx_lt vv)
        have f8 : ded (mk (nx vv) false false) = false := ded_mk _ _ (nx_lt vv)
        have f9 : ver (mk (nx vv) false false) = (nx vv : Int) := ver_mk _ _ (nx_lt vv)
        have f10 : lkd (mk (nx vv) true false) = false := lkd_mk _ _ (nx_lt vv)
        have f11 : ded (mk (nx vv) true false) = true := ded_mk _ _ (nx_lt vv)
        have f12 : ver (mk (nx vv) true false) = (nx vv : Int) := ver_mk _ _ (nx_lt vv)
        have f13 : xb x = 0 := by unfold xb; rw [f1]; rfl
        have f14 : bits BinOp.and IntKind.u64 (IntKind.u64.wrap ((vv : Int) + 1)) 4611686018427387903 = (nx vv : Int) := and_mask vv hvv
        have hn1 : nx vv = (V0 + (n + 1)) % top := by rw [hve]; unfold nx top; omega
        have OA := Lib.hid (show Opt V0 x true false n bg v0 m from ⟨vv, hvv, hx, fun h => (by cases h), fun _ => hve, hbg⟩)
        have OB := Lib.hid (show Opt V0 x true false n false 0 n from ⟨vv, hvv, hx, fun h => (by cases h), fun _ => hve, fun h => (by cases h)⟩)
        have OC := Lib.hid (show Opt V0 (mk (nx vv) false false) false false (n + 1) bg v0 m from ⟨nx vv, nx_lt vv, rfl, fun _ => rfl, fun _ => hn1, fun h => ⟨(hbg h).1, by have := (hbg h).2; omega⟩⟩)
        have OD := Lib.hid (show Opt V0 (mk (nx vv) false false) false false (n + 1) false 0 n from ⟨nx vv, nx_lt vv, rfl, fun _ => rfl, fun _ => hn1, fun h => (by cases h)⟩)
        have OE := Lib.hid (show Opt V0 (mk (nx vv) true false) false true n bg v0 m from ⟨nx vv, nx_lt vv, rfl, fun _ => rfl, fun h => (by cases h), hbg⟩)
        have OF := Lib.hid (show Opt V0 (mk (nx vv) true false) false true n false 0 n from ⟨nx vv, nx_lt vv, rfl, fun _ => rfl, fun h => (by cases h), fun h => (by cases h)⟩)
        generalize mk (nx vv) false false = c1 at *
        generalize mk (nx vv) true false = c2 at *
        generalize nx vv = v1 at *
        clear hx hve hbg hn1
        cases qf <;> cases qt <;> cases bg
        all_goals
          as_aux_lemma =>
            go_wp2_with (first | (go_at_call 19; refine (cLoad_any _ x _ ?_).mono ?_; (focus (first | assumption | go_simp)); rintro e w' ⟨rfl, rfl⟩) | (go_at_call 19; refine (cLoad_any _ c1 _ ?_).mono ?_; (focus (first | assumption | go_simp)); rintro e w' ⟨rfl, rfl⟩) | (go_at_call 19; refine (cLoad_any _ c2 _ ?_).mono ?_; (focus (first | assumption | go_simp)); rintro e w' ⟨rfl, rfl⟩) | (go_at_call 20; refine (vBegin_all _ _).mono ?_; rintro e w' ⟨rfl, rfl⟩) | (go_at_call 22; refine (vValid_any _ _ _).mono ?_; rintro e w' ⟨rfl, rfl⟩) | (go_at_call 14; refine (cTake_no _ x _ ?_ f1).mono ?_; (focus (first | assumption | go_simp)); rintro e w' ⟨rfl, rfl⟩) | (go_at_call 15; refine (cGive_yes _ x _ ?_ ?_ f2 f3).mono ?_; (focus (first | assumption | go_simp)); (focus (first | assumption | go_simp)); rintro e w' ⟨rfl, rfl⟩) | (go_at_call 17; refine (cEnd_yes _ x _ ?_ ?_ f2 f3).mono ?_; (focus (first | assumption | go_simp)); (focus (first | assumption | go_simp)); rintro e w' ⟨rfl, rfl⟩) | (go_at_call 26; refine (vLocked_any _ _).mono ?_; rintro e w' ⟨rfl, rfl⟩) | (go_at_call 27; refine (vDead_any _ _).mono ?_; rintro e w' ⟨rfl, rfl⟩) | (go_at_call 25; refine (vVersion_any _ _).mono ?_; rintro e w' ⟨rfl, rfl⟩))
            all_goals
             go_roundw
             case rel => first | exact ⟨k + 1, _, _, _, n, _, _, _, by omega, by go_num, rfl, rfl, rfl, rfl, rfl, rfl, by omega, by omega, by (first | exact OA.out | exact OB.out | exact OC.out | exact OD.out | exact OE.out | exact OF.out), by (repeat (first | exact hB | apply Below.drew | (refine Below.setCell ?_ (by simp) _))), by go_simp, by go_simp⟩ | exact ⟨k + 1, _, _, _, n + 1, _, _, _, by omega, by go_num, rfl, rfl, (by go_num), rfl, rfl, rfl, by omega, by omega, by (first | exact OA.out | exact OB.out | exact OC.out | exact OD.out | exact OE.out | exact OF.out), by (repeat (first | exact hB | apply Below.drew | (refine Below.setCell ?_ (by simp) _))), by go_simp, by go_simp⟩
             case measure => simp [intOf]; omega
      case false.true =>
        clear hte hve
        obtain ⟨c1, _⟩ : ∃ c1 : Int, c1 = c1 := ⟨0, rfl⟩
        obtain ⟨c2, _⟩ : ∃ c1 : Int, c1 = c1 := ⟨0, rfl⟩
        have f1 : opn x = false := by rw [hx]; exact opn_mk _ _ hvv
        have f2 : lkd x = false := by rw [hx]; exact lkd_mk _ _ hvv
        have f3 : ded x = true := by rw [hx]; exact ded_mk _ _ hvv
        have f9 : (lkd x && !ded x) = false := by rw [f2]; rfl
        have f13 : xb x = 0 := by unfold xb; rw [f1]; rfl
        have OA := Lib.hid (show Opt V0 x false true n bg v0 m from ⟨vv, hvv, hx, fun _ => rfl, fun h => (by cases h), hbg⟩)
        have OB := Lib.hid (show Opt V0 x false true n false 0 n from ⟨vv, hvv, hx, fun _ => rfl, fun h => (by cases h), fun h => (by cases h)⟩)
        clear hx hbg
        cases qf <;> cases qt <;> cases bg
        all_goals
          as_aux_lemma =>
            go_wp2_with (first | (go_at_call 19; refine (cLoad_any _ x _ ?_).mono ?_; (focus (first | assumption | go_simp)); rintro e w' ⟨rfl, rfl⟩) | (go_at_call 19; refine (cLoad_any _ c1 _ ?_).mono ?_; (focus (first | assumption | go_simp)); rintro e w' ⟨rfl, rfl⟩) | (go_at_call 19; refine (cLoad_any _ c2 _ ?_).mono ?_; (focus (first | assumption | go_simp)); rintro e w' ⟨rfl, rfl⟩) | (go_at_call 20; refine (vBegin_all _ _).mono ?_; rintro e w' ⟨rfl, rfl⟩) | (go_at_call 22; refine (vValid_any _ _ _).mono ?_; rintro e w' ⟨rfl, rfl⟩) | (go_at_call 14; refine (cTake_no _ x _ ?_ f1).mono ?_; (focus (first | assumption | go_simp)); rintro e w' ⟨rfl, rfl⟩) | (go_at_call 15; refine (cGive_no _ x _ ?_ f9).mono ?_; (focus (first | assumption | go_simp)); rintro e w' ⟨rfl, rfl⟩) | (go_at_call 17; refine (cEnd_no _ x _ ?_ f9).mono ?_; (focus (first | assumption | go_simp)); rintro e w' ⟨rfl, rfl⟩) | (go_at_call 26; refine (vLocked_any _ _).mono ?_; rintro e w' ⟨rfl, rfl⟩) | (go_at_call 27; refine (vDead_any _ _).mono ?_; rintro e w' ⟨rfl, rfl⟩) | (go_at_call 25; refine (vVersion_any _ _).mono ?_; rintro e w' ⟨rfl, rfl⟩))
            all_goals
             go_roundw
             case rel => exact ⟨k + 1, _, _, _, _, _, _, _, by omega, by go_num, rfl, rfl, (by first | rfl | go_num), rfl, rfl, rfl, by omega, by omega, by (first | exact OA.out | exact OB.out), by (repeat (first | exact hB | apply Below.drew | (refine Below.setCell ?_ (by simp) _))), by go_simp, by go_simp⟩
             case measure => simp [intOf]; omega
    · go_wp2
      go_ret
      exact ⟨rfl, hB⟩
end Go.Proofs.Ytpcniieppbafaaa
