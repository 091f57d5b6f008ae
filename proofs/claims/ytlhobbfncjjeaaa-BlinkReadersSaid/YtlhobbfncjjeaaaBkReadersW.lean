/- The walk of the law BlinkReaders. -/
import Derived.Test.YtlhobbfncjjeaaaBkWrV
namespace Go.Proofs.Ytlhobbfncjjeaaa
open Go.RowKit
set_option maxRecDepth 100000 in
set_option maxHeartbeats 4000000 in
theorem readersLaw_walk (s1 : Option Addr) (len1 cap1 : Nat) (rows1 : List (List Value)) (s2 : Option Addr) (len2 cap2 : Nat) (rows2 : List (List Value)) (s3 : Option Addr) (len3 cap3 : Nat) (rows3 : List (List Value)) (key : ByteArray) (after : Bool) (w : World)
    (hr1 : IsFlat [.inr false, .inr false, .inr true] w s1 len1 rows1) (hc1 : len1 ≤ cap1 ∧ cap1 ≤ maxLen) (hr2 : IsFlat [.inr false, .inr false, .inr true] w s2 len2 rows2) (hc2 : len2 ≤ cap2 ∧ cap2 ≤ maxLen) (hr3 : IsFlat [.inl .u8] w s3 len3 rows3) (hc3 : len3 ≤ cap3 ∧ cap3 ≤ maxLen) (hk : key.size ≤ maxLen) :
    Calls Try.prog 3 #[.slice s1 len1 cap1, .slice s2 len2 cap2, .slice s3 len3 cap3, .string key, .bool after] w fun e w' => e = .returned (.bool true) ∧ Below w.heap.size w w' := by
  obtain ⟨l1, rfl, hW1, hS1⟩ := writes_of_flat hr1
  obtain ⟨l2, rfl, hW2, hS2⟩ := writes_of_flat hr2
  have hst := Lib.hid (And.intro hc3.1 (steps_of_flat hr3)).2
  have hAw := Lib.hid (awake10_any w)
  have hw1h := Lib.hid hW1
  have hw2h := Lib.hid hW2
  have hs1h := Lib.hid hS1
  have hs2h := Lib.hid hS2
  have hkh := Lib.hid hk
  obtain ⟨hc1a, hc1b⟩ := hc1
  obtain ⟨hc2a, hc2b⟩ := hc2
  have hm63 : maxLen = 9223372036854775807 := by unfold maxLen; omega
  rw [hm63] at hc1b hc2b
  obtain ⟨n1, hn1⟩ : ∃ n, n = l1.length := ⟨_, rfl⟩
  obtain ⟨n2, hn2⟩ : ∃ n, n = l2.length := ⟨_, rfl⟩
  rw [← hn1] at hc1a ⊢
  rw [← hn2] at hc2a ⊢
  replace hn1 := Lib.hid hn1
  replace hn2 := Lib.hid hn2
  clear hr1 hr2 hr3 hW1 hW2 hS1 hS2 hc3 hk hm63
  have hmin : ∀ x : Str, ∃ y : Nat, (if (40001 : Int) < (x.size : Int) then (40001 : Int) else (x.size : Int)) = y ∧ y ≤ 40001 := fun x => by
    by_cases hh : (40001 : Int) < (x.size : Int)
    · exact ⟨40001, by simp [hh], by omega⟩
    · exact ⟨x.size, by simp [hh], by omega⟩
  replace hmin := Lib.hid hmin
  go_enter Try.func3, Try.ntmps3
  go_wp2_with fail
  refine hAw.out.mono ?_
  clear hAw
  rintro e w1 ⟨rfl, hb1⟩
  replace hb1 := Lib.hid hb1
  go_wp2_with fail
  go_loopw [11, 12] (fun n i wr => ∃ (k : Nat) (m : Int), k ≤ n1 ∧ k ≤ 201 ∧ n = .int .i64 m ∧ i = .int .i64 k ∧ Below w.heap.size w wr) (fun _ i _ => n1 - (intOf i).toNat)
  case atStart => exact ⟨0, _, Nat.zero_le _, Nat.zero_le _, rfl, rfl, hb1.out⟩
  case round =>
    clear hb1
    obtain ⟨k, m, hk, hk2, rfl, rfl, hB⟩ := hrel
    replace hB := Lib.hid hB
    by_cases hlt : k < n1 ∧ k ≤ 200
    · obtain ⟨hlt, h2⟩ := hlt
      -- <<sum1
      obtain ⟨x, hx⟩ : ∃ x, l1[k]? = some x := ⟨_, List.getElem?_eq_getElem (by have := hn1.out; omega)⟩
      obtain ⟨b, off, es, hbw, hact⟩ := hw1h.out k x hx
      have g0 := keep hB.out hact.1
      have g1 := keep hB.out hact.2.1
      have hbw2 := block_lt_of_cell g0
      obtain ⟨x1, x2, x3⟩ := x
      simp only at g0 g1
      have hA2 : (k : Int) < (n1 : Int) := by omega
      have hA3 : (0 : Int) ≤ (k : Int) := by omega
      clear hact hx
      obtain ⟨y1, hy1, hz1⟩ := hmin.out x1
      obtain ⟨y2, hy2, hz2⟩ := hmin.out x2
      have hw1 : IntKind.i64.wrap ((k : Int) + 1) = (k : Int) + 1 := IntWalk.i64_in _ (by omega)
      subst es
      go_wp2_with fail
      go_quiet (fail)
      go_wp2_with fail
      go_roundw
      case rel => exact ⟨k + 1, _, by omega, by omega, rfl, by go_num, below_drewN hB.out _⟩
      case measure => simp [intOf]; omega
      -- >>sum1
    · go_upto_region 5 with fail
      go_cut [41] (fun v wz => v = .bool false ∧ wr = wz)
      case first =>
        by_cases h3 : k < n1
        · have hA2 : (k : Int) < (n1 : Int) := by omega
          have hA4 : ¬ (k : Int) ≤ 200 := by omega
          go_wp2_with fail
          go_meet
          exact ⟨by simp, rfl⟩
        · have hA2 : ¬ (k : Int) < (n1 : Int) := by omega
          go_wp2_with fail
          go_meet
          exact ⟨by simp, rfl⟩
      case rest =>
        obtain ⟨rfl, rfl⟩ := hcut
        clear hlt hk hk2
        go_wp2_with fail
        obtain ⟨wz, hwz⟩ : ∃ wz, wz = wr := ⟨_, rfl⟩
        subst hwz
        go_loopw [11, 13] (fun n i wr => ∃ (k : Nat) (m : Int), k ≤ n2 ∧ k ≤ 201 ∧ n = .int .i64 m ∧ i = .int .i64 k ∧ Below w.heap.size w wr) (fun _ i _ => n2 - (intOf i).toNat)
        case atStart => exact ⟨0, _, Nat.zero_le _, Nat.zero_le _, rfl, rfl, hB.out⟩
        case round =>
          clear hB
          obtain ⟨k, m, hk, hk2, rfl, rfl, hB⟩ := hrel
          replace hB := Lib.hid hB
          by_cases hlt : k < n2 ∧ k ≤ 200
          · obtain ⟨hlt, h2⟩ := hlt
            -- <<sum2
            obtain ⟨x, hx⟩ : ∃ x, l2[k]? = some x := ⟨_, List.getElem?_eq_getElem (by have := hn2.out; omega)⟩
            obtain ⟨b, off, es, hbw, hact⟩ := hw2h.out k x hx
            have g0 := keep hB.out hact.1
            have g1 := keep hB.out hact.2.1
            have hbw2 := block_lt_of_cell g0
            obtain ⟨x1, x2, x3⟩ := x
            simp only at g0 g1
            have hA2 : (k : Int) < (n2 : Int) := by omega
            have hA3 : (0 : Int) ≤ (k : Int) := by omega
            clear hact hx
            obtain ⟨y1, hy1, hz1⟩ := hmin.out x1
            obtain ⟨y2, hy2, hz2⟩ := hmin.out x2
            have hw1 : IntKind.i64.wrap ((k : Int) + 1) = (k : Int) + 1 := IntWalk.i64_in _ (by omega)
            subst es
            go_wp2_with fail
            go_quiet (fail)
            go_wp2_with fail
            go_roundw
            case rel => exact ⟨k + 1, _, by omega, by omega, rfl, by go_num, below_drewN hB.out _⟩
            case measure => simp [intOf]; omega
            -- >>sum2
          · go_upto_region 9 with fail
            go_cut [68] (fun v wz => v = .bool false ∧ wr = wz)
            case first =>
              by_cases h3 : k < n2
              · have hA2 : (k : Int) < (n2 : Int) := by omega
                have hA4 : ¬ (k : Int) ≤ 200 := by omega
                go_wp2_with fail
                go_meet
                exact ⟨by simp, rfl⟩
              · have hA2 : ¬ (k : Int) < (n2 : Int) := by omega
                go_wp2_with fail
                go_meet
                exact ⟨by simp, rfl⟩
            case rest =>
              obtain ⟨rfl, rfl⟩ := hcut
              clear hlt hk hk2
              go_upto_region 12 with fail
              by_cases h1 : 200 < n1
              · have hA1 : (200 : Int) < (n1 : Int) := by omega
                go_wp2_with fail
                go_ret
                exact ⟨rfl, hB.out⟩
              by_cases h2 : 200 < n2
              · have hA1 : ¬ (200 : Int) < (n1 : Int) := by omega
                have hA2 : (200 : Int) < (n2 : Int) := by omega
                go_wp2_with fail
                go_ret
                exact ⟨rfl, hB.out⟩
              have hA1 : ¬ (200 : Int) < (n1 : Int) := by omega
              have hA2 : ¬ (200 : Int) < (n2 : Int) := by omega
              by_cases h3 : 40000 < m
              · go_wp2_with fail
                go_ret
                exact ⟨by simp, hB.out⟩
              obtain ⟨wa, hwa⟩ : ∃ wa, wa = wr := ⟨_, rfl⟩
              subst hwa
              have hBa := Lib.hid hB.out
              clear hB
              go_wp2_with fail
              have hw0a := Lib.hid fun W (hW : Below wa.heap.size wa W) => hBa.out.trans (hW.mono hBa.out.size)
              go_loopg [14] 3 (fun gk v wq => ∃ how : Nat, gk = 3 - how ∧ how ≤ 2 ∧ v = .int .i64 how ∧ Below w.heap.size w wq)
              case atStart => exact ⟨0, rfl, by omega, rfl, hBa.out⟩
              case round =>
                clear hBa hw0a
                obtain ⟨how, rfl, hhow, rfl, hB⟩ := hrel
                by_cases hlt : how < 2
                · have hH2 : (how : Int) < 2 := by omega
                  obtain ⟨wb, hwb⟩ : ∃ wb, wb = wr := ⟨_, rfl⟩
                  subst hwb
                  replace hB := Lib.hid hB
                  go_wp2_with fail
                  refine (show Calls Try.prog 10 #[.int .i64 4096] wb _ from arNewPool_some 4096 wb (by omega) (by omega)).mono ?_
                  rintro e w3 ⟨p, g, f, rfl, hB3, hp3, hg3, hf3, hP3⟩
                  have hNw := Lib.hid (RT.new (w0 := wb) hB3 hP3 ⟨hp3, hg3, hf3⟩ l1)
                  clear hP3 hB3 hp3 hg3 hf3
                  go_wp2_with fail
                  refine hNw.out.mono ?_
                  clear hNw
                  rintro e w4 ⟨t, rfl, P, gens, rt, i, Ls, ρ, hT, _, _⟩
                  have hrt := hT.rt4
                  replace hT := Lib.hid hT
                  go_wp2_with fail
                  have hw1w : Hid (∀ W, Below wb.heap.size wb W → WActs W s1 l1) := Lib.hid fun W hW => hw1h.out.below (hB.out.trans (hW.mono hB.out.size))
                  have hw2w : Hid (∀ W, Below wb.heap.size wb W → WActs W s2 l2) := Lib.hid fun W hW => hw2h.out.below (hB.out.trans (hW.mono hB.out.size))
                  obtain ⟨W0, hW0⟩ : ∃ W0, W0 = (w4.alloc (.cells #[.int .u8 7] 5)).alloc (.cells #[.pointer (some ⟨t, 0, none⟩), .slice s1 n1 cap1, .int .i64 0, .slice (some ⟨w4.heap.size, 0, none⟩) 1 1, .int .i64 0, .bool false] 36) := ⟨_, rfl⟩
                  obtain ⟨hbs, hbX⟩ := heap_two w4 (.cells #[.int .u8 7] 5) (.cells #[.pointer (some ⟨t, 0, none⟩), .slice s1 n1 cap1, .int .i64 0, .slice (some ⟨w4.heap.size, 0, none⟩) 1 1, .int .i64 0, .bool false] 36)
                  have hb04 := below_two w4 (.cells #[.int .u8 7] 5) (.cells #[.pointer (some ⟨t, 0, none⟩), .slice s1 n1 cap1, .int .i64 0, .slice (some ⟨w4.heap.size, 0, none⟩) 1 1, .int .i64 0, .bool false] 36)
                  rw [← hW0] at hbs hbX hb04 ⊢
                  clear hW0
                  have hT1 := hT.out.marked hb04 (y := w4.heap.size + 1) (by omega) (heap_lt hbX) 7
                  have hrX : mark ρ (w4.heap.size + 1) 7 (w4.heap.size + 1) = 7 := mark_self
                  have hrb : mark ρ (w4.heap.size + 1) 7 w4.heap.size = 0 := by rw [mark_other (by omega)]; exact hT.out.ro.far _ (Nat.le_refl _)
                  obtain ⟨bs, hbse⟩ : ∃ bs, bs = w4.heap.size := ⟨_, rfl⟩
                  obtain ⟨X, hXe⟩ : ∃ X, X = w4.heap.size + 1 := ⟨_, rfl⟩
                  have hbX1 : bs < X := by omega
                  rw [← hXe] at hbX hT1 hrX hrb ⊢
                  rw [← hbse] at hbs hbX hrb ⊢
                  have hin0 : Hid (∃ n Ls' ρ', n ≤ 1 ∧ RT wb P gens rt i t [] l1 1 Ls' 0 W0 ρ' ∧ ρ' X = 7 ∧ WrB W0 X t s1 n1 cap1 0 (some ⟨bs, 0, none⟩) 1 1 n ∧ W0.heap[bs]? = some (.cells #[.int .u8 7] 5) ∧ ρ' bs = 0) := Lib.hid ⟨0, Ls, _, by omega, hT1.1, hrX, hbX, hbs, hrb⟩
                  clear hT hT1 hrX hrb hbs hbX hb04 hXe hbse
                  go_loopg [120] (n1 + 1) (fun gk v wq => ∃ (at_ : Nat), gk = n1 + 1 - at_ ∧ at_ ≤ n1 ∧ ∃ n Ls' ρ', n ≤ 1 ∧ RT wb P gens rt i t [] l1 1 Ls' at_ wq ρ' ∧ ρ' X = 7 ∧ WrB wq X t s1 n1 cap1 at_ (some ⟨bs, 0, none⟩) 1 1 n ∧ wq.heap[bs]? = some (.cells #[.int .u8 7] 5) ∧ ρ' bs = 0)
                  case atStart => exact ⟨0, rfl, by omega, hin0.out⟩
                  case round =>
                    clear hin0
                    obtain ⟨at_, rfl, hat, n, Ls1, ρ1, hn1x, hT1, hrX, hbX, hbs, hrb⟩ := hrel
                    obtain ⟨c0, c1, c2, c3, c4, c5, f2, f4, f5, hqX⟩ := hbX.cells
                    by_cases hal : at_ < n1
                    · -- <<vis1
                      obtain ⟨hT2, hU2⟩ := hT1.upd hrX (.inl rfl) (W' := wr.setCell ⟨X, 4, none⟩ (.int .i64 ((0 : Nat) : Int))) ((Upd.refl _ _).setCell (by simp) _)
                      have hb2 := hbX.setN 0
                      have hbs2 : (wr.setCell ⟨X, 4, none⟩ (.int .i64 ((0 : Nat) : Int))).heap[bs]? = some (.cells #[.int .u8 7] 5) := by rw [heap_set_other _ _ (by simp; omega)]; exact hbs
                      have hk7 : StepK (wr.setCell ⟨X, 4, none⟩ (.int .i64 ((0 : Nat) : Int))) (some ⟨bs, 0, none⟩) 1 0 7 := .inl ⟨by omega, bs, 0, 7, rfl, heap_lt hbs2, by rw [cell_of_heap hbs2]; rfl, by omega, by omega, rfl⟩
                      have hvis : Hid (Calls Try.prog 12 #[.pointer (some ⟨X, 0, none⟩)] (wr.setCell ⟨X, 4, none⟩ (.int .i64 0)) fun e w' => e = .returned (.tuple #[]) ∧ ∃ at2 n Ls' ρ', at_ < at2 ∧ at2 ≤ n1 ∧ n ≤ 1 ∧ RT wb P gens rt i t [] l1 1 Ls' at2 w' ρ' ∧ ρ' X = 7 ∧ WrB w' X t s1 n1 cap1 at2 (some ⟨bs, 0, none⟩) 1 1 n ∧ w'.heap[bs]? = some (.cells #[.int .u8 7] 5) ∧ ρ' bs = 0) := Lib.hid (by
                        rw [hn1.out] at hb2 hat hal ⊢
                        refine (visit_any hT2 hrX (.inl rfl) hb2 hw1w.out hat hk7 (by omega) (by have := hn1.out; omega) List.Pairwise.nil (by have := hn1.out; simp; omega)).mono ?_
                        rintro e w' ⟨he, Ls', ρ', g1, g2, g3, g4, g5, g6⟩
                        refine ⟨he, min (at_ + 7) l1.length, 1, Ls', ρ', by omega, by omega, by omega, g1, g2, g3, g4.heap hbs2 (by rw [hrb]; unfold wr0; simp; omega), by rw [g4.role _ (heap_lt hbs2)]; exact hrb⟩)
                      have hA3 : (at_ : Int) < (n1 : Int) := by omega
                      clear hT1 hT2 hU2 hb2 hbs2 hk7 hbX hbs hrX hrb c0 c1 c3 c5 f2 f5
                      go_wp2_with fail
                      refine hvis.out.mono ?_
                      clear hvis c2 c4 f4
                      rintro e w6 ⟨rfl, at2, n', Ls2, ρ2, q1, q2, q3⟩
                      replace q3 := Lib.hid q3
                      go_wp2_with fail
                      go_roundg (n1 + 1 - at2)
                      case rel => exact ⟨at2, rfl, q2, n', Ls2, ρ2, q3.out⟩
                      case measure => omega
                      -- >>vis1
                    · obtain rfl : n1 = at_ := by omega
                      obtain ⟨wc, hwc⟩ : ∃ wc, wc = wr := ⟨_, rfl⟩
                      subst hwc
                      have hA3 : ¬ (n1 : Int) < (n1 : Int) := by omega
                      replace hT1 := Lib.hid hT1
                      replace hrX := Lib.hid hrX
                      replace hbX := Lib.hid hbX
                      clear hbs hrb c0 c1 c3 c4 c5 f2 f4 f5
                      go_wp2_with fail
                      clear c2
                      obtain ⟨i1, hi1, hzA, hzB, hzC⟩ := pair9_info
                      have hmz := Lib.hid (mom_sort (wl := l1) (C := []) List.Pairwise.nil)
                      have hml := Lib.hid (mom_len (wl := l1) (C := []) List.Pairwise.nil)
                      go_loopg [20, 21] n1 (fun gk pv iv wq => ∃ (k : Nat) (a : Option Addr) (c : Nat), gk = n1 - k ∧ k ≤ n1 ∧ iv = .int .i64 k ∧ pv = .slice a (mom [] l1 k).length c ∧ At wq 2 pcel a c (mom [] l1 k) ∧ (∀ b, b ∈ bks a (mom [] l1 k) → wc.heap.size ≤ b) ∧ Below wc.heap.size wc wq)
                      case atStart => exact ⟨0, none, 0, rfl, by omega, rfl, rfl, (Row.nil pcel_len pcel_one 0 101 wc).at', (by intro b hb; simp [mom_zero, bks] at hb), Below.refl _ _⟩
                      case round =>
                        obtain ⟨k, a, c, rfl, hk, rfl, rfl, hAt, hbk, hBc⟩ := hrel
                        by_cases hkn : k < n1
                        · -- <<pairs
                          obtain ⟨x, hx⟩ : ∃ x, l1[k]? = some x := ⟨_, List.getElem?_eq_getElem (by have := hn1.out; omega)⟩
                          have hbel := hT1.out.ro.bel.trans (hBc.mono hT1.out.ro.bel.size)
                          obtain ⟨b, off, es, hbw, hact⟩ := hw1w.out wr hbel k x hx
                          obtain ⟨g0, g1, g2⟩ := hact
                          have hbw2 := block_lt_of_cell g0
                          have hdo := done10_any a c (mom [] l1 k) x wr hAt (hmz.out k) (by have := hml.out k; simp at this; omega) (hs1h.out x (List.mem_of_getElem? hx))
                          rw [← mom_succ hx] at hdo
                          obtain ⟨cl, hcl⟩ : ∃ cl, cl = (mom [] l1 k).length := ⟨_, rfl⟩
                          rw [← hcl] at hdo ⊢
                          clear hcl hx hAt hbk hbel
                          obtain ⟨x1, x2, x3⟩ := x
                          simp only at g0 g1 g2 hdo
                          have hK2 : (k : Int) < (n1 : Int) := by omega
                          have hK3 : (0 : Int) ≤ (k : Int) := by omega
                          have hwk : IntKind.i64.wrap ((k : Int) + 1) = (k : Int) + 1 := IntWalk.i64_in _ (by omega)
                          replace hdo := Lib.hid hdo
                          replace hBc := Lib.hid hBc
                          subst es
                          go_wp2_with fail
                          refine hdo.out.mono ?_
                          clear hdo
                          rintro e w6 ⟨a6, c6, rfl, hr6, hb6⟩
                          have hBc6 := Lib.hid (hBc.out.trans (hb6.mono hBc.out.size))
                          have hbk6 := Lib.hid fun b hb => Nat.le_trans hBc.out.size (row_bks hr6 b hb)
                          replace hr6 := Lib.hid hr6.at'
                          clear hb6
                          go_wp2_with fail
                          go_roundg (n1 - (k + 1))
                          case rel => exact ⟨k + 1, a6, c6, rfl, by omega, by go_num, rfl, hr6.out, hbk6.out, hBc6.out⟩
                          case measure => omega
                          -- >>pairs
                        · obtain rfl : n1 = k := by omega
                          have hK2 : ¬ (n1 : Int) < (n1 : Int) := by omega
                          obtain ⟨wd, hwd⟩ : ∃ wd, wd = wr := ⟨_, rfl⟩
                          subst hwd
                          obtain ⟨C0, hC0⟩ : ∃ C0, C0 = mom [] l1 n1 := ⟨_, rfl⟩
                          have hs0 : CSort C0 := by rw [hC0]; exact hmz.out n1
                          have hl0 : C0.length ≤ 200 := by rw [hC0]; have := hml.out n1; simp at this; omega
                          have hz0 : KSz C0 := by rw [hC0]; exact mom_ksz (fun p hp => by cases hp) hs1h.out n1
                          have hTd : RT wb P gens rt i t C0 l2 (1 + n1) Ls1 0 wd ρ1 := by rw [hC0]; exact (hT1.out.below hBc).again l2
                          have hXd : WrB wd X t s1 n1 cap1 n1 (some ⟨bs, 0, none⟩) 1 1 n := Below.heap' hBc hbX.out
                          have hrb : ∀ b, b ∈ bks a C0 → ρ1 b = 0 := fun b hb => hT1.out.ro.far b (hbk b (by rw [← hC0]; exact hb))
                          rw [← hC0] at hAt hbk ⊢
                          have hYb := heap_alloc_new wd (.cells #[.pointer (some ⟨t, 0, none⟩), .slice s2 n2 cap2, .int .i64 0, .slice s3 len3 cap3, .int .i64 0, .bool false] 36)
                          have hBy : Below wd.heap.size wd (wd.alloc (.cells #[.pointer (some ⟨t, 0, none⟩), .slice s2 n2 cap2, .int .i64 0, .slice s3 len3 cap3, .int .i64 0, .bool false] 36)) := (Below.refl _ _).alloc (Nat.le_refl _) _
                          obtain ⟨hTy, _⟩ := hTd.marked hBy (Nat.le_refl _) (heap_lt hYb) 8
                          have hAy := hAt.below hBy
                          have hXy : WrB (wd.alloc (.cells #[.pointer (some ⟨t, 0, none⟩), .slice s2 n2 cap2, .int .i64 0, .slice s3 len3 cap3, .int .i64 0, .bool false] 36)) X t s1 n1 cap1 n1 (some ⟨bs, 0, none⟩) 1 1 n := Below.heap' hBy hXd
                          have hrXy : mark ρ1 wd.heap.size 8 X = 7 := by rw [mark_other (by have := heap_lt hXd; omega)]; exact hrX.out
                          have hrby : ∀ b, b ∈ bks a C0 → mark ρ1 wd.heap.size 8 b = 0 := fun b hb => by
                            by_cases e : b = wd.heap.size
                            · have h1 := hAt.blt b hb
                              omega
                            · rw [mark_other e]; exact hrb b hb
                          have hIy : WrI wb P gens rt i t C0 l2 (1 + n1) wd.heap.size 8 s2 cap2 s3 len3 cap3 ⟨Ls1, 0, 0⟩ (wd.alloc (.cells #[.pointer (some ⟨t, 0, none⟩), .slice s2 n2 cap2, .int .i64 0, .slice s3 len3 cap3, .int .i64 0, .bool false] 36)) (mark ρ1 wd.heap.size 8) := ⟨hTy, Nat.zero_le _, mark_self, by rw [← hn2.out]; exact hYb⟩
                          have hstw : StepsAt wb s3 len3 := fun q hq => by
                            obtain ⟨b, off, x, z1, z2, z3, z4⟩ := hst.out q hq
                            exact ⟨b, off, x, z1, Nat.lt_of_lt_of_le z2 hB.out.size, keep hB.out z3, z4⟩
                          have hVW := wr_visits (P := P) (gens := gens) (rt := rt) (i := i) (t := t) (y := wd.heap.size) (sc := cap2) (stc := cap3) (lv0 := 1 + n1) (C0 := C0) (.inr rfl) hw2w.out hstw (by have := hn2.out; omega) hs0 (by have := hn2.out; omega) hrt
                          have hlim : (wrVis C0 l2).cnt ⟨Ls1, 0, 0⟩ + (wrVis C0 l2).wk ⟨Ls1, 0, 0⟩ * 100000000 + 40000000 ≤ 1000000000000 := by
                            show 0 + (l2.length - 0) * 100000000 + 40000000 ≤ 1000000000000
                            have := hn2.out
                            omega
                          have hGet := Lib.hid (vis_get (wrVis_ok C0 l2) hVW hIy hlim key)
                          have hNxt := Lib.hid (vis_next (wrVis_ok C0 l2) hVW hIy hlim key after)
                          replace hIy := Lib.hid hIy
                          replace hs0 := Lib.hid hs0
                          replace hz0 := Lib.hid hz0
                          replace hAy := Lib.hid hAy
                          replace hXy := Lib.hid hXy
                          replace hrXy := Lib.hid hrXy
                          replace hrby := Lib.hid hrby
                          clear hTd hXd hrb hTy hstw hVW hlim hAt hbk hBc hC0 hT1 hrX hbX hmz hml hst hYb hBy
                          obtain ⟨wy, hwy⟩ : ∃ wy, wy = wd.alloc (.cells #[.pointer (some ⟨t, 0, none⟩), .slice s2 n2 cap2, .int .i64 0, .slice s3 len3 cap3, .int .i64 0, .bool false] 36) := ⟨_, rfl⟩
                          obtain ⟨Y, hY⟩ : ∃ Y, Y = wd.heap.size := ⟨_, rfl⟩
                          rw [← hwy, ← hY] at hGet hNxt hIy
                          rw [← hwy] at hAy hXy
                          rw [← hY] at hrXy hrby
                          replace hY := Lib.hid hY
                          replace hwy := Lib.hid hwy
                          by_cases h0 : how = 0
                          · subst h0
                            -- <<get
                            go_upto_region 31 with fail
                            rw [← hwy.out, ← hY.out]
                            clear hNxt hIy
                            go_wp2_with fail
                            refine hGet.out.mono ?_
                            clear hGet
                            rintro e w5 ⟨s5, ρ5, rfl, _, hI5, hR5⟩
                            obtain ⟨hT5, hat5, hr5, hY5⟩ := hI5
                            have hA5 := at_ruB hAy.out hR5 (by intro b hb; rw [hrby.out b hb]; unfold wr0; simp; omega)
                            have hX5 := hXy.out.ru hR5 (by rw [hrXy.out]; unfold wr0; simp; omega)
                            have hMo := Lib.hid (moments_any a c C0 s2 cap2 s5.at_ l2 w5 hA5 hs0.out (by omega) (hw2w.out w5 hT5.ro.bel) hs2h.out hat5 (by have := hn2.out; omega))
                            have hco : cget (content ((wrVis C0 l2).Ls s5)) key = cget (mom C0 l2 s5.at_) key := by rw [← hT5.con]; rfl
                            obtain ⟨gv, hgv⟩ : ∃ gv, gv = (cget (content ((wrVis C0 l2).Ls s5)) key).getD s0 := ⟨_, rfl⟩
                            obtain ⟨gb, hgb⟩ : ∃ gb, gb = (cget (content ((wrVis C0 l2).Ls s5)) key).isSome := ⟨_, rfl⟩
                            rw [← hgv, ← hgb]
                            rw [hco] at hgv hgb
                            replace hgv := Lib.hid hgv
                            replace hgb := Lib.hid hgb
                            rw [← hn2.out] at hY5 hat5
                            obtain ⟨d0, d1, d2, d3, d4, d5, _, _, _, hqY⟩ := hY5.cells
                            have ha2 : (s5.at_ : Int) ≤ (cap2 : Int) := by omega
                            have ha3 : (0 : Int) ≤ (s5.at_ : Int) := by omega
                            replace hT5 := Lib.hid hT5
                            replace hX5 := Lib.hid hX5
                            have hY5h := Lib.hid hY5
                            clear hA5 hR5 hr5 hco hY5 hAy hXy hrXy hrby
                            obtain ⟨at5, hat5e⟩ : ∃ at5, at5 = s5.at_ := ⟨_, rfl⟩
                            rw [← hat5e] at ha2 ha3 hMo hgv hgb d2 hT5 hY5h hat5
                            clear hat5e
                            go_wp2_with fail
                            refine hMo.out.mono ?_
                            clear hMo d2
                            rintro e w6 ⟨ma, mc, mL, rfl, hM, hb6⟩
                            have hFo := Lib.hid (found_any ma mc C0 l2 at5 key gv gb w6 hM (by have := hn2.out; omega) (fun j => by have := mom_len2 (wl := l2) hs0.out j; have := hn2.out; omega) ⟨at5, Nat.le_refl _, hgv.out.symm, hgb.out.symm⟩)
                            have hT6 := hT5.out.below hb6
                            have hX6 : WrB w6 X t s1 n1 cap1 n1 (some ⟨bs, 0, none⟩) 1 1 n := Below.heap' hb6 hX5.out
                            have hY6 : WrB w6 Y t s2 n2 cap2 at5 s3 len3 cap3 _ := Below.heap' hb6 hY5h.out
                            obtain ⟨_, _, _, _, _, e5, _, _, _, hqX6⟩ := hX6.cells
                            obtain ⟨_, _, _, _, _, f5, _, _, _, hqY6⟩ := hY6.cells
                            have hCk := Lib.hid (hT6.check (by omega) hs0.out (by omega))
                            have hb06 := Lib.hid (hB.out.trans (hT6.ro.bel.mono hB.out.size))
                            clear hM hb6 hT6 hX6 hY6 hT5 hX5 hY5h d0 d1 d3 d4 d5 hqY
                            go_wp2_with fail
                            refine hFo.out.mono ?_
                            clear hFo
                            rintro e w7 ⟨rfl, rfl⟩
                            go_wp2_with fail
                            refine hCk.out.mono ?_
                            clear hCk
                            rintro e w8 ⟨rfl, hb8⟩
                            have hB8 := Lib.hid (hb06.out.trans (hb8.mono hb06.out.size))
                            clear hb8
                            go_wp2_with fail
                            go_roundg 2
                            case rel => exact ⟨1, rfl, by omega, rfl, hB8.out⟩
                            case measure => omega
                            -- >>get
                          · have h1 : how = 1 := by omega
                            subst h1
                            -- <<next
                            go_upto_region 31 with fail
                            rw [← hwy.out, ← hY.out]
                            clear hGet hIy
                            go_wp2_with fail
                            refine hNxt.out.mono ?_
                            clear hNxt
                            rintro e w5 ⟨s5, ρ5, o, rfl, hN, hI5, hR5⟩
                            rw [show nextV o = .tuple #[.string ((o.map (·.1)).getD s0), .string ((o.map (·.2)).getD s0), .bool o.isSome, .bool false] by cases o <;> rfl]
                            obtain ⟨hT5, hat5, hr5, hY5⟩ := hI5
                            have hA5 := at_ruB hAy.out hR5 (by intro b hb; rw [hrby.out b hb]; unfold wr0; simp; omega)
                            have hX5 := hXy.out.ru hR5 (by rw [hrXy.out]; unfold wr0; simp; omega)
                            have hMo := Lib.hid (moments_any a c C0 s2 cap2 s5.at_ l2 w5 hA5 hs0.out (by omega) (hw2w.out w5 hT5.ro.bel) hs2h.out hat5 (by have := hn2.out; omega))
                            have his : Hid (∀ p, o = some p → cget (mom C0 l2 s5.at_) p.1 = some p.2 ∧ abv key after p.1 = true) := Lib.hid fun p hp => by
                              obtain ⟨z1, z2⟩ := hN.is p hp
                              exact ⟨by rw [← hT5.con]; exact z1, z2⟩
                            have hgp : Hid (∀ x, abv key after x = true → (∀ p, o = some p → slt x p.1 = true) → ∃ j, j ≤ s5.at_ ∧ cget (mom C0 l2 j) x = none) := Lib.hid fun x z1 z2 => by
                              obtain ⟨cc, z3, z4⟩ := hN.gap x z1 z2
                              obtain ⟨j, z5, rfl⟩ := List.mem_map.1 z3
                              rw [List.mem_range] at z5
                              exact ⟨j, by omega, z4⟩
                            rw [← hn2.out] at hY5 hat5
                            obtain ⟨d0, d1, d2, d3, d4, d5, _, _, _, hqY⟩ := hY5.cells
                            have ha2 : (s5.at_ : Int) ≤ (cap2 : Int) := by omega
                            have ha3 : (0 : Int) ≤ (s5.at_ : Int) := by omega
                            replace hT5 := Lib.hid hT5
                            replace hX5 := Lib.hid hX5
                            have hY5h := Lib.hid hY5
                            clear hA5 hR5 hr5 hN hY5 hAy hXy hrXy hrby
                            obtain ⟨at5, hat5e⟩ : ∃ at5, at5 = s5.at_ := ⟨_, rfl⟩
                            rw [← hat5e] at ha2 ha3 hMo his hgp d2 hT5 hY5h hat5
                            clear hat5e
                            go_wp2_with fail
                            refine hMo.out.mono ?_
                            clear hMo d2
                            rintro e w6 ⟨ma, mc, mL, rfl, hM, hb6⟩
                            have hFo := Lib.hid (least_any ma mc C0 l2 at5 key after o w6 hM (by have := hn2.out; omega) (fun j => by have := mom_len2 (wl := l2) hs0.out j; have := hn2.out; omega) hkh.out (fun j => mom_ksz hz0.out hs2h.out j) his.out hgp.out)
                            obtain ⟨ok, hok⟩ : ∃ ok, ok = (o.map (·.1)).getD s0 := ⟨_, rfl⟩
                            obtain ⟨ov, hov⟩ : ∃ ov, ov = (o.map (·.2)).getD s0 := ⟨_, rfl⟩
                            obtain ⟨ob, hob⟩ : ∃ ob, ob = o.isSome := ⟨_, rfl⟩
                            rw [← hok, ← hov, ← hob] at hFo ⊢
                            clear hok hov hob his hgp
                            have hT6 := hT5.out.below hb6
                            have hX6 : WrB w6 X t s1 n1 cap1 n1 (some ⟨bs, 0, none⟩) 1 1 n := Below.heap' hb6 hX5.out
                            have hY6 : WrB w6 Y t s2 n2 cap2 at5 s3 len3 cap3 _ := Below.heap' hb6 hY5h.out
                            obtain ⟨_, _, _, _, _, e5, _, _, _, hqX6⟩ := hX6.cells
                            obtain ⟨_, _, _, _, _, f5, _, _, _, hqY6⟩ := hY6.cells
                            have hCk := Lib.hid fun W (hW : Below w6.heap.size w6 W) => (hT6.below hW).check (by omega) hs0.out (by omega)
                            have hb06 := Lib.hid (hB.out.trans (hT6.ro.bel.mono hB.out.size))
                            clear hM hb6 hT6 hX6 hY6 hT5 hX5 hY5h d0 d1 d3 d4 d5 hqY
                            go_wp2_with fail
                            refine hFo.out.mono ?_
                            clear hFo
                            rintro e w7 ⟨rfl, hb7⟩
                            have hb07 := Lib.hid (hb06.out.trans (hb7.mono hb06.out.size))
                            have g5 := keep hb7 e5
                            have k5 := keep hb7 f5
                            have hqX7 := block_lt_of_cell g5
                            have hqY7 := block_lt_of_cell k5
                            replace hCk := Lib.hid (hCk.out w7 hb7)
                            clear hb7 e5 f5 hqX6 hqY6
                            go_wp2_with fail
                            refine hCk.out.mono ?_
                            clear hCk
                            rintro e w8 ⟨rfl, hb8⟩
                            have hB8 := Lib.hid (hb07.out.trans (hb8.mono hb07.out.size))
                            clear hb8
                            go_wp2_with fail
                            go_roundg 1
                            case rel => exact ⟨2, rfl, by omega, rfl, hB8.out⟩
                            case measure => omega
                            -- >>next
                · obtain rfl : how = 2 := by omega
                  replace hB := Lib.hid hB
                  go_wp2_with fail
                  go_ret
                  exact ⟨rfl, hB.out⟩
end Go.Proofs.Ytlhobbfncjjeaaa
