/- The walk of the law VlockPlays: for any list of acts, with a cell or without one, it returns true. -/
import Derived.Test.YtpcniieppbafaaaVlockWords
import Derived.Test.YtpcniieppbafaaaFlat
import Derived.OpenShut
import Derived.BigQuiet
import Derived.Deep.RegionHeld3
namespace Go.Proofs.Ytpcniieppbafaaa
open Go.RowKit
open Vl
set_option maxRecDepth 100000 in
theorem act3_row {w : World} {s : Option Addr} {len : Nat} {rows : List (List Value)} (hr : IsFlat [.inl .i64, .inl .u64, .inl .u64] w s len rows) :
    ∀ k, k < len → ∃ b off d x y, s = some ⟨b, off, none⟩ ∧ w.cell? ⟨b, off + k * 3, none⟩ = some (.int .i64 d) ∧ w.cell? ⟨b, off + k * 3 + 1, none⟩ = some (.int .u64 x) ∧ w.cell? ⟨b, off + k * 3 + 2, none⟩ = some (.int .u64 y) ∧ Wd x ∧ Wd y := by
  intro k hk
  rcases hr with ⟨h0, _⟩ | ⟨b, off, hs, _, _, hb, hc⟩
  · omega
  obtain ⟨h1, h2⟩ := hc k hk
  have g0 := h2 0 (by simp)
  have g1 := h2 1 (by simp)
  have g2 := h2 2 (by simp)
  generalize rows.getD k [] = r at *
  obtain ⟨_, _, _, rfl, ⟨d, rfl, hd⟩, ⟨x, rfl, hx⟩, ⟨y, rfl, hy⟩⟩ := h1.of3
  simp only [List.length_cons, List.length_nil, Nat.add_zero, ← Nat.add_assoc] at g0 g1 g2
  exact ⟨b, off, d, x, y, hs, by simpa using g0, by simpa using g1, by simpa using g2, wd_wf hx, wd_wf hy⟩
theorem below_set {B : Nat} {w w' : World} (h : Below B w w') {p : Addr} (hp : B ≤ p.block) (u : Value) : Below B w (w'.setCell p u) := h.setCell hp u
set_option maxRecDepth 100000 in
set_option maxHeartbeats 8000000 in
theorem plays_some (s : Option Addr) (len cap : Nat) (rows : List (List Value)) (w : World) (hr : IsFlat [.inl .i64, .inl .u64, .inl .u64] w s len rows) (hl : len ≤ 500) :
    Calls Try.prog 3 #[.slice s len cap, .bool false] w fun e w' => e = .returned (.bool true) ∧ Below w.heap.size w w' := by
  have hro := Lib.hid (act3_row hr)
  clear hr
  go_enter Try.func3, Try.ntmps3
  go_wp2_with (first | (go_at_call 9; refine (awake_any _).mono ?_; rintro e w' ⟨rfl, rfl⟩))
  go_loopw [6, 7] (fun v i wr => ∃ (k : Nat) (x : Int), k ≤ len ∧ i = .int .i64 k ∧ v = .int .u64 x ∧ Wd x ∧ Below w.heap.size w wr ∧ wr.cell? ⟨w.heap.size + 1, 0, none⟩ = some (.int .u64 x) ∧ wr.frozen? ⟨w.heap.size + 1, 0, none⟩ = false) (fun _ i _ => len - (intOf i).toNat)
  case atStart => exact ⟨0, 0, Nat.zero_le _, rfl, rfl, ⟨0, false, false, by decide, rfl⟩, ((Below.refl _ _).alloc (Nat.le_refl _) _).alloc (by simp) _, by go_simp, by go_simp⟩
  case round =>
    obtain ⟨k, x, hk, rfl, rfl, hx, hB, hc, hf⟩ := hrel
    by_cases hlt : k < len
    · obtain ⟨b, off, d, y, z, rfl, g0, g1, g2, hy, hz⟩ := hro.out k hlt
      have hbw : b < w.heap.size := block_lt_of_cell g0
      have hne1 : ¬ b = w.heap.size + 1 := by omega
      have hne2 : ¬ w.heap.size + 1 = b := by omega
      replace g0 := keep hB g0
      replace g1 := keep hB g1
      replace g2 := keep hB g2
      clear hro
      go_wp2_with fail
      refine (rOf_any _ _).mono ?_
      rintro e w1 ⟨rfl, hb1⟩
      have hB1 := hB.trans (hb1.mono hB.size)
      have hf1 := keepf hb1 hc hf
      have hc1 := keep hb1 hc
      replace g0 := keep hb1 g0
      replace g1 := keep hb1 g1
      replace g2 := keep hb1 g2
      have hs1 : w.heap.size + 1 < w1.heap.size := block_lt_of_cell hc1
      have hs2 : b < w1.heap.size := block_lt_of_cell g0
      clear hB hc hf hb1
      obtain ⟨v, dd, ll, hv, hxe⟩ := hx
      have q1 : rl x = ll := by rw [hxe]; exact rl_mk _ _
      have q2 : rd x = dd := by rw [hxe]; exact rd_mk _ _ hv
      have q3 : opn x = (!dd && !ll) := by rw [hxe]; exact opn_mk _ _ hv
      have q4 : lkd x = ll := by rw [hxe]; exact lkd_mk _ _ hv
      have q5 : ded x = dd := by rw [hxe]; exact ded_mk _ _ hv
      have q6 : yl x = xl x := by rw [hxe]; exact (yl_mk _ _ _ hv).trans (xl_mk _ _ _ hv).symm
      have q7 : yu x = xu x := by rw [hxe]; exact (yu_mk _ _ _ hv).trans (xu_mk _ _ _ hv).symm
      have q8 : yk x = xk x := by rw [hxe]; exact (yk_mk _ _ _ hv).trans (xk_mk _ _ _ hv).symm
      have q9 : Wd (xl x) := by rw [hxe, xl_mk _ _ _ hv]; cases dd <;> cases ll <;> exact wd_mk _ _ _ hv
      have q10 : Wd (xu x) := by rw [hxe, xu_mk _ _ _ hv]; cases ll <;> first | exact wd_mk _ _ _ hv | exact wd_mk _ _ _ (nx_lt v)
      have q11 : Wd (xk x) := by rw [hxe, xk_mk _ _ _ hv]; cases dd <;> first | exact wd_mk _ _ _ hv | exact wd_mk _ _ _ (nx_lt v)
      have hx : Wd x := ⟨v, dd, ll, hv, hxe⟩
      clear hxe hv
      cases dd <;> cases ll
      all_goals
        simp only [Bool.not_true, Bool.not_false, Bool.and_true, Bool.and_false] at q3
        by_cases d1 : d = 1
        · subst d1
          by_cases hxy : x = y
          · subst hxy
            go_wp2_with fail
            go_region_held3 (fun w' => w'.cell? ⟨b, off + k * 3 + 1, none⟩ = some (.int .u64 x) ∧ w'.cell? ⟨b, off + k * 3 + 2, none⟩ = some (.int .u64 z)) (go_keep)
              (first | (go_at_call 12; refine (cCas_hit _ x _ _ ?_ ?_).mono ?_; (focus (first | assumption | go_simp)); (focus (first | assumption | go_simp)); rintro e w' ⟨rfl, rfl⟩))
            go_wp2_with (first | (go_at_call 19; refine (cLoad_any _ z _ ?_).mono ?_; (focus (first | assumption | go_simp)); rintro e w' ⟨rfl, rfl⟩))
            go_roundw
            case rel => exact ⟨k + 1, z, by omega, by go_num, rfl, hz, by (repeat (first | exact hB1 | exact hB2 | apply Below.drew | (refine Below.alloc ?_ (by first | omega | (simp; omega) | simp) _) | (refine Below.setCell ?_ (by simp) _))), by go_simp, by go_simp⟩
            case measure => simp [intOf]; omega
          · go_wp2_with fail
            go_region_held3 (fun w' => w'.cell? ⟨b, off + k * 3 + 1, none⟩ = some (.int .u64 y) ∧ w'.cell? ⟨b, off + k * 3 + 2, none⟩ = some (.int .u64 z)) (go_keep)
              (first | (go_at_call 12; refine (cCas_miss _ x _ _ _ ?_ ?_ hxy).mono ?_; (focus (first | assumption | go_simp)); (focus (first | assumption | go_simp)); rintro e w' ⟨rfl, rfl⟩))
            go_wp2_with (first | (go_at_call 19; refine (cLoad_any _ x _ ?_).mono ?_; (focus (first | assumption | go_simp)); rintro e w' ⟨rfl, rfl⟩))
            go_roundw
            case rel => exact ⟨k + 1, x, by omega, by go_num, rfl, hx, by (repeat (first | exact hB1 | exact hB2 | apply Below.drew | (refine Below.alloc ?_ (by first | omega | (simp; omega) | simp) _) | (refine Below.setCell ?_ (by simp) _))), by go_simp, by go_simp⟩
            case measure => simp [intOf]; omega
        by_cases d0 : d = 0
        · subst d0
          go_wp2_with (first | (go_at_call 11; refine (cStore_any _ x _ _ ?_ ?_).mono ?_; (focus (first | assumption | go_simp)); (focus (first | assumption | go_simp)); rintro e w' ⟨rfl, rfl⟩) | (go_at_call 19; refine (cLoad_any _ y _ ?_).mono ?_; (focus (first | assumption | go_simp)); rintro e w' ⟨rfl, rfl⟩))
          go_roundw
          case rel => exact ⟨k + 1, y, by omega, by go_num, rfl, hy, by (repeat (first | exact hB1 | exact hB2 | apply Below.drew | (refine Below.alloc ?_ (by first | omega | (simp; omega) | simp) _) | (refine Below.setCell ?_ (by simp) _))), by go_simp, by go_simp⟩
          case measure => simp [intOf]; omega
        by_cases d2 : d = 2
        · subst d2
          go_wp2_with fail
          refine (rLock_all _ _).mono ?_
          rintro e w2 ⟨rfl, hb2⟩
          have hB2 : Below w.heap.size w w2 := (hB1.alloc (by omega) _).trans (hb2.mono (by simp; omega))
          have hf2 : w2.frozen? ⟨w.heap.size + 1, 0, none⟩ = false := keepf hb2 (v := .int .u64 x) (by go_simp) (by go_simp)
          have hc2 : w2.cell? ⟨w.heap.size + 1, 0, none⟩ = some (.int .u64 x) := keep hb2 (by go_simp)
          have hs3 : w.heap.size + 1 < w2.heap.size := block_lt_of_cell hc2
          have q12 : opn x = true → lck x = xl x := by intro h; unfold xl; rw [h]; rfl
          have q15 : opn x = false → xl x = x := by intro h; unfold xl; rw [h]; rfl
          first
            | (have q12 := q12 q3
               clear q15
               go_wp2_with (first | (go_at_call 14; refine (cTake_yes _ x _ ?_ ?_ q3).mono ?_; (focus (first | assumption | go_simp)); (focus (first | assumption | go_simp)); rintro e w' ⟨rfl, rfl⟩) | (go_at_call 19; refine (cLoad_any _ (xl x) _ ?_).mono ?_; (focus (first | assumption | go_simp)); rintro e w' ⟨rfl, rfl⟩))
               go_roundw
               case rel => exact ⟨k + 1, xl x, by omega, by go_num, rfl, q9, by (repeat (first | exact hB1 | exact hB2 | apply Below.drew | (refine Below.alloc ?_ (by first | omega | (simp; omega) | simp) _) | (refine Below.setCell ?_ (by simp) _))), by go_simp, by go_simp⟩
               case measure => simp [intOf]; omega)
            | (have q15 := q15 q3
               clear q12
               go_wp2_with (first | (go_at_call 14; refine (cTake_no _ x _ ?_ q3).mono ?_; (focus (first | assumption | go_simp)); rintro e w' ⟨rfl, rfl⟩) | (go_at_call 19; refine (cLoad_any _ x _ ?_).mono ?_; (focus (first | assumption | go_simp)); rintro e w' ⟨rfl, rfl⟩))
               go_roundw
               case rel => exact ⟨k + 1, x, by omega, by go_num, rfl, hx, by (repeat (first | exact hB1 | exact hB2 | apply Below.drew | (refine Below.alloc ?_ (by first | omega | (simp; omega) | simp) _) | (refine Below.setCell ?_ (by simp) _))), by go_simp, by go_simp⟩
               case measure => simp [intOf]; omega)
        by_cases d3 : d = 3
        · subst d3
          first
            | (have q13 : unl x = xu x := by unfold xu; rw [show lkd x = true from q4]; rfl
               go_wp2_with (first | (go_at_call 15; refine (cGive_yes _ x _ ?_ ?_ q4 q5).mono ?_; (focus (first | assumption | go_simp)); (focus (first | assumption | go_simp)); rintro e w' ⟨rfl, rfl⟩))
               refine (rUnlock_all _ _).mono ?_
               rintro e w2 ⟨rfl, hb2⟩
               have hB2 : Below w.heap.size w w2 := ((hB1.setCell (by simp) _).alloc (by simp; omega) _).trans (hb2.mono (by simp; omega))
               have hf2 : w2.frozen? ⟨w.heap.size + 1, 0, none⟩ = false := keepf hb2 (v := .int .u64 (xu x)) (by go_simp) (by go_simp)
               have hc2 : w2.cell? ⟨w.heap.size + 1, 0, none⟩ = some (.int .u64 (xu x)) := keep hb2 (by go_simp)
               have hs3 : w.heap.size + 1 < w2.heap.size := block_lt_of_cell hc2
               go_wp2_with (first | (go_at_call 19; refine (cLoad_any _ (xu x) _ ?_).mono ?_; (focus (first | assumption | go_simp)); rintro e w' ⟨rfl, rfl⟩))
               go_roundw
               case rel => exact ⟨k + 1, xu x, by omega, by go_num, rfl, q10, by (repeat (first | exact hB1 | exact hB2 | apply Below.drew | (refine Below.alloc ?_ (by first | omega | (simp; omega) | simp) _) | (refine Below.setCell ?_ (by simp) _))), by go_simp, by go_simp⟩
               case measure => simp [intOf]; omega)
            | (have q14 : (lkd x && !ded x) = false := by rw [q4, q5]; rfl
               go_wp2_with (first | (go_at_call 15; refine (cGive_no _ x _ ?_ q14).mono ?_; (focus (first | assumption | go_simp)); rintro e w' ⟨rfl, rfl⟩) | (go_at_call 19; refine (cLoad_any _ x _ ?_).mono ?_; (focus (first | assumption | go_simp)); rintro e w' ⟨rfl, rfl⟩))
               go_roundw
               case rel => exact ⟨k + 1, x, by omega, by go_num, rfl, hx, by (repeat (first | exact hB1 | exact hB2 | apply Below.drew | (refine Below.alloc ?_ (by first | omega | (simp; omega) | simp) _) | (refine Below.setCell ?_ (by simp) _))), by go_simp, by go_simp⟩
               case measure => simp [intOf]; omega)
        by_cases d4 : d = 4
        · subst d4
          first
            | (have q13 : kil1 x = xk x := by unfold xk; rw [show ded x = false from q5]; rfl
               go_wp2_with (first | (go_at_call 17; refine (cEnd_yes _ x _ ?_ ?_ q4 q5).mono ?_; (focus (first | assumption | go_simp)); (focus (first | assumption | go_simp)); rintro e w' ⟨rfl, rfl⟩))
               refine (rKill_all _ _).mono ?_
               rintro e w2 ⟨rfl, hb2⟩
               have hB2 : Below w.heap.size w w2 := ((hB1.setCell (by simp) _).alloc (by simp; omega) _).trans (hb2.mono (by simp; omega))
               have hf2 : w2.frozen? ⟨w.heap.size + 1, 0, none⟩ = false := keepf hb2 (v := .int .u64 (xk x)) (by go_simp) (by go_simp)
               have hc2 : w2.cell? ⟨w.heap.size + 1, 0, none⟩ = some (.int .u64 (xk x)) := keep hb2 (by go_simp)
               have hs3 : w.heap.size + 1 < w2.heap.size := block_lt_of_cell hc2
               go_wp2_with (first | (go_at_call 19; refine (cLoad_any _ (xk x) _ ?_).mono ?_; (focus (first | assumption | go_simp)); rintro e w' ⟨rfl, rfl⟩))
               go_roundw
               case rel => exact ⟨k + 1, xk x, by omega, by go_num, rfl, q11, by (repeat (first | exact hB1 | exact hB2 | apply Below.drew | (refine Below.alloc ?_ (by first | omega | (simp; omega) | simp) _) | (refine Below.setCell ?_ (by simp) _))), by go_simp, by go_simp⟩
               case measure => simp [intOf]; omega)
            | (have q14 : (lkd x && !ded x) = false := by rw [q4, q5]; rfl
               go_wp2_with (first | (go_at_call 17; refine (cEnd_no _ x _ ?_ q14).mono ?_; (focus (first | assumption | go_simp)); rintro e w' ⟨rfl, rfl⟩) | (go_at_call 19; refine (cLoad_any _ x _ ?_).mono ?_; (focus (first | assumption | go_simp)); rintro e w' ⟨rfl, rfl⟩))
               go_roundw
               case rel => exact ⟨k + 1, x, by omega, by go_num, rfl, hx, by (repeat (first | exact hB1 | exact hB2 | apply Below.drew | (refine Below.alloc ?_ (by first | omega | (simp; omega) | simp) _) | (refine Below.setCell ?_ (by simp) _))), by go_simp, by go_simp⟩
               case measure => simp [intOf]; omega)
        go_wp2_with (first | (go_at_call 19; refine (cLoad_any _ x _ ?_).mono ?_; (focus (first | assumption | go_simp)); rintro e w' ⟨rfl, rfl⟩))
        go_roundw
        case rel => exact ⟨k + 1, x, by omega, by go_num, rfl, hx, by (repeat (first | exact hB1 | exact hB2 | apply Below.drew | (refine Below.alloc ?_ (by first | omega | (simp; omega) | simp) _) | (refine Below.setCell ?_ (by simp) _))), by go_simp, by go_simp⟩
        case measure => simp [intOf]; omega
    · go_wp2
      go_ret
      exact ⟨rfl, hB⟩
set_option maxRecDepth 100000 in
set_option maxHeartbeats 8000000 in
theorem plays_nil (s : Option Addr) (len cap : Nat) (rows : List (List Value)) (w : World) (hr : IsFlat [.inl .i64, .inl .u64, .inl .u64] w s len rows) (hl : len ≤ 500) :
    Calls Try.prog 3 #[.slice s len cap, .bool true] w fun e w' => e = .returned (.bool true) ∧ Below w.heap.size w w' := by
  have hro := Lib.hid (act3_row hr)
  clear hr
  have q0 : rv 0 = 0 := rfl
  have q1 : rl 0 = false := rfl
  have q2 : rd 0 = false := rfl
  go_enter Try.func3, Try.ntmps3
  go_wp2_with (first | (go_at_call 9; refine (awake_any _).mono ?_; rintro e w' ⟨rfl, rfl⟩))
  go_loopw [6, 7] (fun v i wr => ∃ (k : Nat), k ≤ len ∧ i = .int .i64 k ∧ v = .int .u64 0 ∧ Below w.heap.size w wr) (fun _ i _ => len - (intOf i).toNat)
  case atStart => exact ⟨0, Nat.zero_le _, rfl, rfl, ((Below.refl _ _).alloc (Nat.le_refl _) _).alloc (by simp) _⟩
  case round =>
    obtain ⟨k, hk, rfl, rfl, hB⟩ := hrel
    by_cases hlt : k < len
    · obtain ⟨b, off, d, y, z, rfl, g0, g1, g2, hy, hz⟩ := hro.out k hlt
      replace g0 := keep hB g0
      replace g1 := keep hB g1
      replace g2 := keep hB g2
      clear hro
      go_wp2_with fail
      refine (rOf_any _ _).mono ?_
      rintro e w1 ⟨rfl, hb1⟩
      have hB1 := hB.trans (hb1.mono hB.size)
      replace g0 := keep hb1 g0
      replace g1 := keep hb1 g1
      replace g2 := keep hb1 g2
      have hs2 : b < w1.heap.size := block_lt_of_cell g0
      have hs1 := hB1.size
      clear hB hb1
      by_cases d1 : d = 1
      · subst d1
        by_cases hxy : 0 = y
        · subst hxy
          go_wp2_with fail
          go_region_held3 (fun w' => w'.cell? ⟨b, off + k * 3 + 1, none⟩ = some (.int .u64 0) ∧ w'.cell? ⟨b, off + k * 3 + 2, none⟩ = some (.int .u64 z)) (go_keep)
            (first | (go_at_call 12; refine (cCas_nil _ _ _).mono ?_; rintro e w' ⟨rfl, rfl⟩))
          go_wp2_with (first | (go_at_call 19; refine (cLoad_nil _).mono ?_; rintro e w' ⟨rfl, rfl⟩))
          go_roundw
          case rel => exact ⟨k + 1, by omega, by go_num, rfl, by (repeat (first | exact hB1 | exact hB2 | apply Below.drew | (refine Below.alloc ?_ (by first | omega | (simp; omega) | simp) _)))⟩
          case measure => simp [intOf]; omega
        · have hxy' : ((0 : Int) == y) = false := by simpa using hxy
          go_wp2_with fail
          go_region_held3 (fun w' => w'.cell? ⟨b, off + k * 3 + 1, none⟩ = some (.int .u64 y) ∧ w'.cell? ⟨b, off + k * 3 + 2, none⟩ = some (.int .u64 z)) (go_keep)
            (first | (go_at_call 12; refine (cCas_nil _ _ _).mono ?_; rintro e w' ⟨rfl, rfl⟩))
          go_wp2_with (first | (go_at_call 19; refine (cLoad_nil _).mono ?_; rintro e w' ⟨rfl, rfl⟩))
          go_roundw
          case rel => exact ⟨k + 1, by omega, by go_num, rfl, by (repeat (first | exact hB1 | exact hB2 | apply Below.drew | (refine Below.alloc ?_ (by first | omega | (simp; omega) | simp) _)))⟩
          case measure => simp [intOf]; omega
      by_cases d0 : d = 0
      · subst d0
        go_wp2_with (first | (go_at_call 11; refine (cStore_nil _ _).mono ?_; rintro e w' ⟨rfl, rfl⟩) | (go_at_call 19; refine (cLoad_nil _).mono ?_; rintro e w' ⟨rfl, rfl⟩))
        go_roundw
        case rel => exact ⟨k + 1, by omega, by go_num, rfl, by (repeat (first | exact hB1 | exact hB2 | apply Below.drew | (refine Below.alloc ?_ (by first | omega | (simp; omega) | simp) _)))⟩
        case measure => simp [intOf]; omega
      by_cases d2 : d = 2
      · subst d2
        go_wp2_with fail
        refine (rLock_all _ _).mono ?_
        rintro e w2 ⟨rfl, hb2⟩
        have hB2 : Below w.heap.size w w2 := (hB1.alloc (by omega) _).trans (hb2.mono (by simp; omega))
        go_wp2_with (first | (go_at_call 14; refine (cTake_nil _).mono ?_; rintro e w' ⟨rfl, rfl⟩) | (go_at_call 19; refine (cLoad_nil _).mono ?_; rintro e w' ⟨rfl, rfl⟩))
        go_roundw
        case rel => exact ⟨k + 1, by omega, by go_num, rfl, by (repeat (first | exact hB1 | exact hB2 | apply Below.drew | (refine Below.alloc ?_ (by first | omega | (simp; omega) | simp) _)))⟩
        case measure => simp [intOf]; omega
      by_cases d3 : d = 3
      · subst d3
        go_wp2_with (first | (go_at_call 15; refine (cGive_nil _).mono ?_; rintro e w' ⟨rfl, rfl⟩) | (go_at_call 19; refine (cLoad_nil _).mono ?_; rintro e w' ⟨rfl, rfl⟩))
        go_roundw
        case rel => exact ⟨k + 1, by omega, by go_num, rfl, by (repeat (first | exact hB1 | exact hB2 | apply Below.drew | (refine Below.alloc ?_ (by first | omega | (simp; omega) | simp) _)))⟩
        case measure => simp [intOf]; omega
      by_cases d4 : d = 4
      · subst d4
        go_wp2_with (first | (go_at_call 17; refine (cEnd_nil _).mono ?_; rintro e w' ⟨rfl, rfl⟩) | (go_at_call 19; refine (cLoad_nil _).mono ?_; rintro e w' ⟨rfl, rfl⟩))
        go_roundw
        case rel => exact ⟨k + 1, by omega, by go_num, rfl, by (repeat (first | exact hB1 | exact hB2 | apply Below.drew | (refine Below.alloc ?_ (by first | omega | (simp; omega) | simp) _)))⟩
        case measure => simp [intOf]; omega
      go_wp2_with (first | (go_at_call 19; refine (cLoad_nil _).mono ?_; rintro e w' ⟨rfl, rfl⟩))
      go_roundw
      case rel => exact ⟨k + 1, by omega, by go_num, rfl, by (repeat (first | exact hB1 | exact hB2 | apply Below.drew | (refine Below.alloc ?_ (by first | omega | (simp; omega) | simp) _)))⟩
      case measure => simp [intOf]; omega
    · go_wp2
      go_ret
      exact ⟨rfl, hB⟩
set_option maxHeartbeats 1000000 in
theorem plays_long (s : Option Addr) (len cap : Nat) (hl : 500 < len) (n : Bool) (w : World) :
    Calls Try.prog 3 #[.slice s len cap, .bool n] w fun e w' => e = .returned (.bool true) ∧ Below w.heap.size w w' := by
  go_enter Try.func3, Try.ntmps3
  go_wp2_with (first | (go_at_call 9; refine (awake_any _).mono ?_; rintro e w' ⟨rfl, rfl⟩))
  go_ret
  exact ⟨rfl, (Below.refl _ _).alloc (Nat.le_refl _) _⟩
theorem plays_walk (s : Option Addr) (len cap : Nat) (rows : List (List Value)) (n : Bool) (w : World) (hr : IsFlat [.inl .i64, .inl .u64, .inl .u64] w s len rows) :
    Calls Try.prog 3 #[.slice s len cap, .bool n] w fun e w' => e = .returned (.bool true) ∧ Below w.heap.size w w' := by
  by_cases hl : 500 < len
  · exact plays_long s len cap hl n w
  cases n
  · exact plays_some s len cap rows w hr (by omega)
  · exact plays_nil s len cap rows w hr (by omega)
end Go.Proofs.Ytpcniieppbafaaa
