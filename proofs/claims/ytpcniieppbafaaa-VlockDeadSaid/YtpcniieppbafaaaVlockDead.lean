/- The walk of the law VlockDead: for any unsigned words and any list of bytes it returns true. -/
import Derived.Test.YtpcniieppbafaaaVlockWords
import Derived.Test.YtpcniieppbafaaaFlat
import Derived.OpenShut
namespace Go.Proofs.Ytpcniieppbafaaa
open Go.RowKit
open Vl
set_option maxHeartbeats 1000000 in
theorem dead_long (a o : Int) (s : Option Addr) (len cap : Nat) (hl : 300 < len) (w : World) :
    Calls Try.prog 6 #[.int .u64 a, .slice s len cap, .int .u64 o] w fun e w' => e = .returned (.bool true) ∧ Below w.heap.size w w' := by
  go_enter Try.func6, Try.ntmps6
  go_wp2_with (first | (go_at_call 9; refine (awake_any _).mono ?_; rintro e w' ⟨rfl, rfl⟩))
  go_ret
  exact ⟨rfl, (Below.refl _ _).alloc (Nat.le_refl _) _⟩
set_option maxHeartbeats 1000000 in
theorem dead_shut (a o : Int) (s : Option Addr) (len cap : Nat) (hl : len ≤ 300) (w : World) (f1 : opn a = false) :
    Calls Try.prog 6 #[.int .u64 a, .slice s len cap, .int .u64 o] w fun e w' => e = .returned (.bool true) ∧ Below w.heap.size w w' := by
  go_enter Try.func6, Try.ntmps6
  go_wp2_with (first | (go_at_call 9; refine (awake_any _).mono ?_; rintro e w' ⟨rfl, rfl⟩) | (go_at_call 11; refine (cStore_any _ 0 _ _ ?_ ?_).mono ?_; (focus (first | assumption | go_simp)); (focus (first | assumption | go_simp)); rintro e w' ⟨rfl, rfl⟩) | (go_at_call 14; refine (cTake_no _ a _ ?_ f1).mono ?_; (focus (first | assumption | go_simp)); rintro e w' ⟨rfl, rfl⟩))
  go_ret
  refine ⟨rfl, ?_⟩
  exact ((Below.refl _ _).alloc (Nat.le_refl _) _).alloc (by simp) _
set_option maxHeartbeats 4000000 in
theorem dead_open (v : Nat) (hv : v < top) (o : Int) (s : Option Addr) (len cap : Nat) (rows : List (List Value)) (w : World) (hr : IsFlat [.inl .u8] w s len rows) (hl : len ≤ 300) :
    Calls Try.prog 6 #[.int .u64 (mk v false false), .slice s len cap, .int .u64 o] w fun e w' => e = .returned (.bool true) ∧ Below w.heap.size w w' := by
  have f1 : opn (mk v false false) = true := opn_mk false false hv
  have f4 := lck_mk hv
  have f5 : lkd (mk v false true) = true := lkd_mk false true hv
  have f6 : ded (mk v false true) = false := ded_mk false true hv
  have f7 : kil1 (mk v false true) = mk (nx v) true false := kil1_mk true hv
  have f8 : (lkd (mk (nx v) true false) && !ded (mk (nx v) true false)) = false := by rw [lkd_mk _ _ (nx_lt v)]; rfl
  have f9 : opn (mk (nx v) true false) = false := opn_mk _ _ (nx_lt v)
  have f10 : lkd (mk (nx v) true false) = false := lkd_mk _ _ (nx_lt v)
  have f11 : ded (mk (nx v) true false) = true := ded_mk _ _ (nx_lt v)
  have f13 : xk (mk (nx v) true false) = mk (nx v) true false := xk_mk (nx v) true false (nx_lt v)
  generalize mk v false false = a at *
  generalize mk v false true = b1 at *
  generalize mk (nx v) true false = c at *
  have hro : ∀ k, k < len → ∃ b off x, s = some ⟨b, off, none⟩ ∧ b < w.heap.size ∧ w.cell? ⟨b, off + k, none⟩ = some (.int .u8 x) ∧ 0 ≤ x := by
    intro k hk
    rcases hr with ⟨h0, _⟩ | ⟨b, off, hs, _, _, hb, hc⟩
    · omega
    · obtain ⟨h1, h2⟩ := hc k hk
      have h3 := h2 0 (by simp)
      generalize rows.getD k [] = r at *
      match r, h1 with
      | [x], h1 =>
        obtain ⟨⟨n, rfl, hn⟩, _⟩ := h1
        exact ⟨b, off, n, hs, hb, by simpa using h3, (bounds_u8 hn).1⟩
  clear hr
  have hro := Lib.hid hro
  have hne : (o != c) = true ∨ (o != c) = false := by cases o != c <;> simp
  go_enter Try.func6, Try.ntmps6
  go_wp2_with (first | (go_at_call 9; refine (awake_any _).mono ?_; rintro e w' ⟨rfl, rfl⟩) | (go_at_call 11; refine (cStore_any _ 0 _ _ ?_ ?_).mono ?_; (focus (first | assumption | go_simp)); (focus (first | assumption | go_simp)); rintro e w' ⟨rfl, rfl⟩) | (go_at_call 14; refine (cTake_yes _ a _ ?_ ?_ f1).mono ?_; (focus (first | assumption | go_simp)); (focus (first | assumption | go_simp)); rintro e w' ⟨rfl, rfl⟩) | (go_at_call 17; refine (cEnd_yes _ b1 _ ?_ ?_ f5 f6).mono ?_; (focus (first | assumption | go_simp)); (focus (first | assumption | go_simp)); rintro e w' ⟨rfl, rfl⟩) | (go_at_call 19; refine (cLoad_any _ c _ ?_).mono ?_; (focus (first | assumption | go_simp)); rintro e w' ⟨rfl, rfl⟩))
  go_loop [11] (fun i => ∃ k : Nat, k ≤ len ∧ i = .int .i64 k) (fun i => len - (intOf i).toNat)
  case atStart => exact ⟨0, Nat.zero_le _, rfl⟩
  case round =>
    obtain ⟨k, hk, rfl⟩ := hrel
    by_cases hlt : k < len
    · obtain ⟨b, off, x, rfl, hb, hx, hx0⟩ := hro.out k hlt
      have hcell : ((w.alloc (Obj.cells #[Value.int IntKind.u64 4] 32)).alloc (Obj.cells #[Value.int IntKind.u64 c] 32)).cell? ⟨b, off + k, none⟩ = some (.int .u8 x) := by
        rw [World.cell?_alloc_past, World.cell?_alloc_past]
        · exact hx
        · exact hb
        · simp; omega
      clear hx
      rcases hne with hne | hne
      all_goals
        go_wp2_with (first | (go_at_call 14; refine (cTake_no _ c _ ?_ f9).mono ?_; (focus (first | assumption | go_simp)); rintro e w' ⟨rfl, rfl⟩) | (go_at_call 15; refine (cGive_no _ c _ ?_ f8).mono ?_; (focus (first | assumption | go_simp)); rintro e w' ⟨rfl, rfl⟩) | (go_at_call 17; refine (cEnd_no _ c _ ?_ f8).mono ?_; (focus (first | assumption | go_simp)); rintro e w' ⟨rfl, rfl⟩) | (go_at_call 12; refine (cCas_miss _ c _ _ _ ?_ ?_ (by simp at hne; omega)).mono ?_; (focus (first | assumption | go_simp)); (focus (first | assumption | go_simp)); rintro e w' ⟨rfl, rfl⟩) | (go_at_call 27; refine (vDead_any _ _).mono ?_; rintro e w' ⟨rfl, rfl⟩) | (go_at_call 19; refine (cLoad_any _ c _ ?_).mono ?_; (focus (first | assumption | go_simp)); rintro e w' ⟨rfl, rfl⟩))
        all_goals
          go_round
          case rel => exact ⟨k + 1, by omega, by go_num⟩
          case measure => simp [intOf]; omega
    · go_wp2_with (first | (go_at_call 19; refine (cLoad_any _ c _ ?_).mono ?_; (focus (first | assumption | go_simp)); rintro e w' ⟨rfl, rfl⟩) | (go_at_call 20; refine (vBegin_all _ _).mono ?_; rintro e w' ⟨rfl, rfl⟩) | (go_at_call 24; refine (vKill_all _ _).mono ?_; rintro e w' ⟨rfl, rfl⟩) | (go_at_call 26; refine (vLocked_any _ _).mono ?_; rintro e w' ⟨rfl, rfl⟩) | (go_at_call 27; refine (vDead_any _ _).mono ?_; rintro e w' ⟨rfl, rfl⟩) | (go_at_call 22; refine (vValid_any _ _ _).mono ?_; rintro e w' ⟨rfl, rfl⟩))
      go_ret
      refine ⟨rfl, ?_⟩
      exact ((Below.refl _ _).alloc (Nat.le_refl _) _).alloc (by simp) _
theorem dead_walk (a : Int) (s : Option Addr) (len cap : Nat) (rows : List (List Value)) (o : Int) (w : World) (ha : (Lit.int .u64 a).wf = true) (hr : IsFlat [.inl .u8] w s len rows) (_ho : (Lit.int .u64 o).wf = true) :
    Calls Try.prog 6 #[.int .u64 a, .slice s len cap, .int .u64 o] w fun e w' => e = .returned (.bool true) ∧ Below w.heap.size w w' := by
  by_cases hl : 300 < len
  · exact dead_long a o s len cap hl w
  obtain ⟨v, d, l, hv, rfl⟩ := wd_of a (wf_u64 ha).1 (wf_u64 ha).2
  cases d <;> cases l
  · exact dead_open v hv o s len cap rows w hr (by omega)
  · exact dead_shut _ o s len cap (by omega) w (opn_mk _ _ hv)
  · exact dead_shut _ o s len cap (by omega) w (opn_mk _ _ hv)
  · exact dead_shut _ o s len cap (by omega) w (opn_mk _ _ hv)
end Go.Proofs.Ytpcniieppbafaaa
