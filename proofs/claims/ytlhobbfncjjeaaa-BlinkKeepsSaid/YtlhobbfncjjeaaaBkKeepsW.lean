/- The walk of the law BlinkKeeps. -/
import Derived.Test.YtlhobbfncjjeaaaBkKeepV
namespace Go.Proofs.Ytlhobbfncjjeaaa
open Go.RowKit
set_option maxRecDepth 100000 in
set_option maxHeartbeats 4000000 in
theorem keepsLaw_walk (s : Option Addr) (len cap : Nat) (rows : List (List Value)) (w : World) (hr : IsFlat [.inl .i64, .inr false, .inr false, .inr true] w s len rows) :
    Calls Try.prog 5 #[.slice s len cap] w fun e w' => e = .returned (.bool true) ∧ Below w.heap.size w w' := by
  have hlen : len ≤ maxLen := by
    rcases hr with ⟨h0, _⟩ | ⟨_, _, _, h1, _⟩
    · rw [h0]; exact Nat.zero_le _
    · exact h1
  obtain ⟨L, rfl, hL, hsz⟩ := acts_of_flat hr
  clear hr
  have hAw := Lib.hid (awake10_any w)
  have hGr := Lib.hid fun W (hW : Below w.heap.size w W) => great10_any s cap L W (hL.below hW) hsz hlen
  have hro := Lib.hid hL
  unfold maxLen at hlen
  clear hL hsz
  go_enter Try.func5, Try.ntmps5
  go_wp2_with fail
  refine hAw.out.mono ?_
  clear hAw
  rintro e w1 ⟨rfl, hb1⟩
  go_wp2_with fail
  refine (hGr.out w1 hb1).mono ?_
  clear hGr
  rintro e w2 ⟨rfl | ⟨rfl, h300⟩, hb2⟩
  · replace hb2 := Lib.hid (hb1.trans (hb2.mono hb1.size))
    go_wp2_with fail
    go_ret
    exact ⟨rfl, hb2.out⟩
  have hb12 := Lib.hid (hb1.trans (hb2.mono hb1.size))
  clear hb1 hb2 hlen
  go_wp2_with fail
  refine (show Calls Try.prog 10 #[.int .i64 4096] w2 _ from arNewPool_some 4096 w2 (by omega) (by omega)).mono ?_
  rintro e w3 ⟨p, g, f, rfl, hB3, hp3, hg3, hf3, hP3⟩
  have hNw := Lib.hid (TreeIs.new (w0 := w2) hB3 hP3 ⟨hp3, hg3, hf3⟩ (by omega))
  clear hP3 hB3 hp3 hg3 hf3
  go_wp2_with fail
  refine hNw.out.mono ?_
  clear hNw
  rintro e w4 ⟨t, rfl, hT⟩
  replace hT := Lib.hid hT
  obtain ⟨len, hle⟩ : ∃ len, len = L.length := ⟨_, rfl⟩
  rw [← hle] at h300 ⊢
  replace hle := Lib.hid hle
  go_wp2_with fail
  go_loopg [7, 8] len (fun gk dv v wr => ∃ (k : Nat) (fat : Bool), gk = len - k ∧ k ≤ len ∧ dv = .bool (!fat) ∧ v = .int .i64 k ∧ TreeIs w2 wr p t (doneC (L.take k)) 4096 (k + 1) fat ∧ (doneC (L.take k)).length ≤ k)
  case atStart => exact ⟨0, true, rfl, by omega, rfl, rfl, hT.out, by simp [doneC]⟩
  case round =>
    clear hT
    obtain ⟨k, fat, rfl, hk, rfl, rfl, hT, hCl⟩ := hrel
    by_cases hlt : k < len
    · obtain ⟨x, hx⟩ : ∃ x, L[k]? = some x := ⟨_, List.getElem?_eq_getElem (by have := hle.out; omega)⟩
      obtain ⟨b, off, rfl, hbw, hact⟩ := hro.out k x hx
      have hsn : Hid (doneC (L.take (k + 1)) = stepC (doneC (L.take k)) x) := Lib.hid (by rw [take_next hx, doneC_snoc])
      have hl1 := Lib.hid (hT.cput_le x.2.1 x.2.2.1)
      have hl2 := Lib.hid (hT.cdel_le x.2.1)
      have hPu := Lib.hid fun W (hW : Below wr.heap.size wr W) => (hT.below hW).put (hh := 9) (by omega) (by omega) (by omega) (by omega) x.2.1 x.2.2.1
      have hDe := Lib.hid fun W (hW : Below wr.heap.size wr W) => (hT.below hW).delete (by omega) (by omega) x.2.1
      have hT' := Lib.hid hT
      obtain ⟨g0, g1, g2, g3⟩ := hact.below (hb12.out.trans (hT.bel.mono hb12.out.size))
      have hbw2 := block_lt_of_cell g0
      obtain ⟨C, hC⟩ : ∃ C, C = doneC (L.take k) := ⟨_, rfl⟩
      rw [← hC] at hCl hsn hl1 hl2 hPu hDe hT'
      clear hT hC hact
      obtain ⟨dd, x1, x2, aft⟩ := x
      simp only at g0 g1 g2 g3 hl1 hl2 hPu hDe
      have hA2 : (k : Int) < (len : Int) := by omega
      have hA3 : (0 : Int) ≤ (k : Int) := by omega
      have hw1 : IntKind.i64.wrap ((k : Int) + 1) = (k : Int) + 1 := IntWalk.i64_in _ (by omega)
      replace hx := Lib.hid hx
      -- <<acts
      by_cases h0 : dd = 0
      · subst h0
        go_upto_region 15 with fail
        go_region_with (go_at_call 25; refine (hPu.out _ (Below.refl _ _).drew).mono ?_; rintro z w5 ⟨rfl, hT5⟩; replace hT5 := Lib.hid hT5)
        all_goals
          go_wp2_with fail
          go_roundg (len - (k + 1))
          case rel =>
            refine ⟨k + 1, fat, rfl, by omega, rfl, by go_num, ?_, ?_⟩
            · rw [hsn.out]; exact hT5.out
            · rw [hsn.out]
              have := hl1.out
              show (cput C x1 x2).length ≤ k + 1
              omega
          case measure => omega
      · have h0b : (dd == 0) = false := by simpa using h0
        by_cases h1 : dd = 1
        · subst h1
          replace h0 := Lib.hid h0
          obtain ⟨hd, hhd⟩ : ∃ hd, hd = (cget C x1).isSome := ⟨_, rfl⟩
          rw [← hhd] at hDe
          clear hhd
          go_wp2_with fail
          refine (hDe.out _ (Below.refl _ _)).mono ?_
          rintro z w5 ⟨rfl, hT5⟩
          replace hT5 := Lib.hid hT5
          cases fat <;> cases hd
          all_goals
            go_wp2_with fail
            go_roundg (len - (k + 1))
            case rel =>
              first | refine ⟨k + 1, false, rfl, by omega, rfl, by go_num, ?_, ?_⟩ | refine ⟨k + 1, true, rfl, by omega, rfl, by go_num, ?_, ?_⟩
              · rw [hsn.out]; exact hT5.out.up (by omega)
              · rw [hsn.out]
                have := hl2.out
                show (cdel C x1).length ≤ k + 1
                omega
            case measure => omega
        · have h1b : (dd == 1) = false := by simpa using h1
          have hst : Hid (stepC C (dd, x1, x2, aft) = C) := Lib.hid (by unfold stepC; rw [if_neg h0, if_neg h1])
          replace h0 := Lib.hid h0
          replace h1 := Lib.hid h1
          go_wp2_with fail
          go_roundg (len - (k + 1))
          case rel =>
            refine ⟨k + 1, fat, rfl, by omega, rfl, by go_num, ?_, ?_⟩
            · rw [hsn.out, hst.out]; exact hT'.out.up (by omega)
            · rw [hsn.out, hst.out]; omega
          case measure => omega
      -- >>acts
    · obtain rfl : k = len := by omega
      have hLt : L.take k = L := List.take_of_length_le (by have := hle.out; omega)
      rw [hLt] at hT hCl
      replace hT := Lib.hid (hT.up (lv' := 301) (by omega))
      clear hk hLt
      obtain ⟨wa, hwa⟩ : ∃ wa, wa = wr := ⟨_, rfl⟩
      subst hwa
      have hbw := Lib.hid (hb12.out.trans (hT.out.bel.mono hb12.out.size))
      have hGet := Lib.hid fun W (hW : Below wa.heap.size wa W) key => (hT.out.below hW).get key
      go_wp2_with fail
      go_loopg [14] k (fun gk v wx => ∃ i : Nat, gk = k - i ∧ i ≤ k ∧ v = .int .i64 i ∧ Below wa.heap.size wa wx)
      case atStart => exact ⟨0, rfl, by omega, rfl, Below.refl _ _⟩
      case round =>
        obtain ⟨i, rfl, hi, rfl, hB⟩ := hrel
        by_cases hlt : i < k
        · obtain ⟨x, hx⟩ : ∃ x, L[i]? = some x := ⟨_, List.getElem?_eq_getElem (by have := hle.out; omega)⟩
          obtain ⟨b, off, rfl, hbk, hact⟩ := hro.out i x hx
          have hcl : Hid (∀ j y, L[j]? = some y → ∀ W, Below wa.heap.size wa W → ACell W b (off + j * 4) y) := Lib.hid fun j y hy W hW => by
            obtain ⟨b2, off2, e, _, hc⟩ := hro.out j y hy
            injection e with e
            injection e with e1 e2
            subst e1 e2
            exact hc.below (hbw.out.trans (hW.mono hbw.out.size))
          have hA2 : (i : Int) < (k : Int) := by omega
          have hA3 : (0 : Int) ≤ (i : Int) := by omega
          have hw1 : IntKind.i64.wrap ((i : Int) + 1) = (i : Int) + 1 := IntWalk.i64_in _ (by omega)
          have hlaw := Lib.hid fun y hy => last_law (i := i) (x := x) (y := y) hx hy
          have hll := Lib.hid (lastAt_lt (L := L) (key := x.2.1) (i := i) (n := k) hlt)
          have hc0 := hcl.out i x hx
          clear hx hact hro
          obtain ⟨dd, x1, x2, aft⟩ := x
          simp only at hlaw hll hc0
          replace hc0 := Lib.hid hc0
          obtain ⟨wx, hwx⟩ : ∃ wx, wx = wr := ⟨_, rfl⟩
          subst hwx
          replace hB := Lib.hid hB
          go_wp2_with fail
          go_loopg [15, 16] k (fun gk lv mv wy => ∃ m : Nat, gk = k - m ∧ m ≤ k ∧ lv = .int .i64 (lastAt L x1 i m : Nat) ∧ mv = .int .i64 m ∧ Below wa.heap.size wa wy)
          case atStart => exact ⟨0, rfl, by omega, rfl, rfl, hB.out⟩
          case round =>
            clear hB
            obtain ⟨m, rfl, hm, rfl, rfl, hB⟩ := hrel
            by_cases hmk : m < k
            · obtain ⟨y, hy⟩ : ∃ y, L[m]? = some y := ⟨_, List.getElem?_eq_getElem (by have := hle.out; omega)⟩
              obtain ⟨g0, g1, g2, g3⟩ := hcl.out m y hy wr hB
              obtain ⟨j0, j1, j2, j3⟩ := hc0.out wr hB
              have hbk2 := block_lt_of_cell g0
              have hM2 : (m : Int) < (k : Int) := by omega
              have hM3 : (0 : Int) ≤ (m : Int) := by omega
              have hwm : IntKind.i64.wrap ((m : Int) + 1) = (m : Int) + 1 := IntWalk.i64_in _ (by omega)
              obtain ⟨hh, hhh⟩ : ∃ hh, hh = hits x1 y := ⟨_, rfl⟩
              have hst : Hid (lastAt L x1 i (m + 1) = if hh then m else lastAt L x1 i m) := Lib.hid (by
                show (if (L[m]?.map (hits x1)).getD false then m else lastAt L x1 i m) = _
                rw [hy, hhh]
                rfl)
              clear hy
              obtain ⟨d2, y1, y2, aft2⟩ := y
              simp only at g0 g1 g2 g3
              replace hB := Lib.hid hB
              -- <<loop3
              go_upto_region 28 with fail
              go_cut [133] (fun v wz => v = .bool hh ∧ Below wr.heap.size wr wz)
              case first =>
                unfold hits at hhh
                simp only at hhh
                by_cases e1 : y1 = x1
                · subst e1
                  by_cases e2 : 0 ≤ d2
                  · by_cases e3 : d2 ≤ 1
                    · have eh : hh = true := by rw [hhh]; simp [e2, e3]
                      subst eh
                      clear hhh
                      go_quiet (fail)
                      go_wp2_with fail
                      go_meet
                      exact ⟨by simp, below_drewN (Below.refl _ _) _⟩
                    · have eh : hh = false := by rw [hhh]; simp [e3]
                      subst eh
                      clear hhh
                      go_quiet (fail)
                      go_wp2_with fail
                      go_meet
                      exact ⟨by simp, below_drewN (Below.refl _ _) _⟩
                  · have eh : hh = false := by rw [hhh]; simp [e2]
                    subst eh
                    clear hhh
                    go_quiet (fail)
                    go_wp2_with fail
                    go_meet
                    exact ⟨by simp, below_drewN (Below.refl _ _) _⟩
                · have eh : hh = false := by rw [hhh]; simp [e1]
                  subst eh
                  have en : (y1.toList == x1.toList) = false := by
                    rw [beq_eq_false_iff_ne]
                    intro e
                    rw [ByteArray.toList_eq, ByteArray.toList_eq] at e
                    exact e1 (str_ext e)
                  clear hhh e1
                  go_quiet (fail)
                  go_wp2_with fail
                  go_meet
                  exact ⟨by simp, below_drewN (Below.refl _ _) _⟩
              case rest =>
                obtain ⟨rfl, hb7⟩ := hcut
                have hB7 := Lib.hid (hB.out.trans (hb7.mono hB.out.size))
                clear hb7 hhh g0 g1 g2 g3 j0 j1 j2 j3
                cases hh
                all_goals
                  go_wp2_with fail
                  go_roundg (k - (m + 1))
                  case rel => exact ⟨m + 1, rfl, by omega, by rw [hst.out]; rfl, by go_num, hB7.out⟩
                  case measure => omega
              -- >>loop3
            · obtain rfl : k = m := by omega
              obtain ⟨q, hq⟩ : ∃ q, q = lastAt L x1 i k := ⟨_, rfl⟩
              have hqk := hll.out k (Nat.le_refl _)
              rw [← hq] at hqk ⊢
              obtain ⟨y, hy⟩ : ∃ y, L[q]? = some y := ⟨_, List.getElem?_eq_getElem (by have := hle.out; omega)⟩
              obtain ⟨hy1, hy2⟩ := hlaw.out y (by rw [← hle.out, ← hq]; exact hy)
              obtain ⟨g0, g1, g2, g3⟩ := hcl.out q y hy wr hB
              obtain ⟨j0, j1, j2, j3⟩ := hc0.out wr hB
              have hgt := hGet.out wr hB x1
              rw [hy1] at hgt
              have hQ2 : (q : Int) < (k : Int) := by omega
              have hQ3 : (0 : Int) ≤ (q : Int) := by omega
              have hbk2 := block_lt_of_cell g0
              obtain ⟨gv, hgv⟩ : ∃ gv, gv = (cget (doneC L) x1).getD s0 := ⟨_, rfl⟩
              rw [← hgv] at hgt hy2
              replace hgt := Lib.hid hgt
              obtain ⟨d2, y1, y2, aft2⟩ := y
              simp only at g0 g1 g2 g3 hgt hy2
              have hcy := Lib.hid fun W hW => hcl.out q _ hy W hW
              clear hgv hq hy hlaw hll hcl hy1
              -- <<get
              go_wp2_with fail
              refine hgt.out.mono ?_
              clear hgt
              rintro e w5 ⟨rfl, hb5⟩
              have hB5 := hB.trans (hb5.mono hB.size)
              clear g0 g1 g2 g3 j0 j1 j2 j3 hb5 hbk2
              obtain ⟨g0, g1, g2, g3⟩ := hcy.out w5 hB5
              have hbk2 := block_lt_of_cell g0
              replace hB5 := Lib.hid hB5
              by_cases h0 : d2 = 0
              · subst h0
                have hy3 := hy2 rfl
                subst hy3
                clear hy2
                go_wp2_with fail
                go_roundg (k - (i + 1))
                case rel => exact ⟨i + 1, rfl, by omega, by go_num, hB5.out⟩
                case measure => omega
              · have h0b : (d2 == 0) = false := by simpa using h0
                have h0d : decide (d2 = 0) = false := by simpa using h0
                clear hy2
                go_wp2_with fail
                go_roundg (k - (i + 1))
                case rel => exact ⟨i + 1, rfl, by omega, by go_num, hB5.out⟩
                case measure => omega
              -- >>get
        · obtain rfl : k = i := by omega
          replace hB := Lib.hid hB
          clear hro hlt hi hGet
          go_wp2_with fail
          obtain ⟨wx, hwx⟩ : ∃ wx, wx = wr := ⟨_, rfl⟩
          subst hwx
          have hTx := Lib.hid (hT.out.below hB.out)
          have hbx := Lib.hid (hbw.out.trans (hB.out.mono hbw.out.size))
          clear hT hB hbw
          obtain ⟨C, hC⟩ : ∃ C, C = doneC L := ⟨_, rfl⟩
          rw [← hC] at hTx hCl
          clear hC
          obtain ⟨cl, hcl⟩ : ∃ cl, cl = C.length := ⟨_, rfl⟩
          rw [← hcl] at hCl
          replace hcl := Lib.hid hcl
          have hsrt := Lib.hid hTx.out.sorted
          go_loopg [21, 22, 23] (cl + 1) (fun gk nv kv av wq => ∃ (n : Nat) (K : Str) (aft : Bool), gk = cl + 1 - n ∧ n ≤ cl ∧ nv = .int .i64 n ∧ kv = .string K ∧ av = .bool aft ∧ cnext C K aft = C[n]? ∧ (aft = true → ∀ q, C[n]? = some q → slt K q.1 = true) ∧ Below wx.heap.size wx wq)
          case atStart => exact ⟨0, s0, false, rfl, by omega, rfl, rfl, rfl, cnext_first C, fun h => (by cases h), Below.refl _ _⟩
          case round =>
            obtain ⟨n, K, aft, rfl, hn, rfl, rfl, rfl, hnx, hab, hB⟩ := hrel
            have hTr := hTx.out.below hB
            have hct := hTr.count (by omega) ((Below.refl wr.heap.size wr).alloc (Nat.le_refl _) (.cells #[.int .i64 0] 3)) (Nat.le_refl _) (heap_alloc_new wr (.cells #[.int .i64 0] 3)) K aft
            have hLn : Hid (∀ W, Below wr.heap.size wr W → Calls Try.prog 24 #[.pointer (some ⟨t, 0, none⟩)] W fun e w' => e = .returned (.int .i64 cl) ∧ w' = W) := Lib.hid fun W hW => by
              rw [hcl.out]
              exact (hTr.below hW).len.mono fun _ _ ⟨a, b⟩ => ⟨a, b.symm⟩
            have hMo : Hid (∀ W, Calls Try.prog 28 #[.int .i64 cl] W fun e w' => e = .returned (.int .i64 (2 + (((cl + 1) * (cl + 1)).log2 : Nat))) ∧ w' = W) := Lib.hid fun W => (most_any cl (by omega) W).mono fun _ _ ⟨a, b⟩ => ⟨a, b.symm⟩
            obtain ⟨mo, hmo⟩ : ∃ mo, mo = ((cl + 1) * (cl + 1)).log2 := ⟨_, rfl⟩
            rw [← hmo] at hMo
            have hGt := Lib.hid fun W (hW : Below wr.heap.size wr W) key => (hTr.below hW).get key
            unfold CountEnd at hct
            rw [hnx, ← hcl.out, ← hmo] at hct
            clear hmo
            replace hB := Lib.hid hB
            have hw1 : IntKind.i64.wrap ((n : Int) + 1) = (n : Int) + 1 := IntWalk.i64_in _ (by omega)
            have hqr : wr.heap.size < wr.heap.size + 1 := by omega
            clear hTr hnx
            by_cases hlt : n < cl
            · obtain ⟨q, hq⟩ : ∃ q, C[n]? = some q := ⟨_, List.getElem?_eq_getElem (by have := hcl.out; omega)⟩
              have hgq := cget_at hsrt.out hq
              have hnn := Lib.hid (cnext_next hsrt.out hq)
              have hnl := Lib.hid fun q2 (h : C[n + 1]? = some q2) => csort_lt hsrt.out (show n < n + 1 by omega) hq h
              rw [hq] at hct hab
              have hab2 := Lib.hid fun h => hab h q rfl
              obtain ⟨q1, q2⟩ := q
              simp only at hgq hnn hnl hab2
              have hgt := Lib.hid fun W (hW : Below wr.heap.size wr W) => hGt.out W hW q1
              rw [hgq] at hgt
              simp only [Option.getD_some, Option.isSome_some] at hgt
              rw [show nextV (some (q1, q2)) = .tuple #[.string q1, .string q2, .bool true, .bool false] from rfl] at hct
              replace hct := Lib.hid hct
              clear hab hGt hgq hq
              have hle2 : Hid (aft = true → (Op.bytesLess q1.toList K.toList || q1.toList == K.toList) = false) := Lib.hid fun h => by
                rw [leq_sle]
                unfold sle
                rw [hab2.out h]
                rfl
              go_wp2_with fail
              refine hct.out.mono ?_
              clear hct
              rintro e w5 ⟨vn, rfl, hb5, hbox, hvn⟩
              have k0 : w5.cell? ⟨wr.heap.size, 0, none⟩ = some (.int .i64 vn) := by rw [cell_of_heap hbox]; rfl
              have hqb := heap_lt hbox
              replace hb5 := Lib.hid hb5
              clear hbox
              go_wp2_with fail
              -- <<visits
              go_cut [191] (fun v wz => v = .bool false ∧ Below w5.heap.size w5 wz)
              case first =>
                cases fat with
                | true =>
                  have hdv : decide ((2 : Int) + (mo : Int) < vn) = false := by
                    have := hvn rfl
                    rw [decide_eq_false_iff_not]; omega
                  clear hvn
                  go_quiet (first | (go_at_call 24; exact Calls.quiet_of_same (hLn.out _ (below_drewN hb5.out _))) | (go_at_call 28; exact Calls.quiet_of_same (hMo.out _)))
                  go_wp2_with fail
                  go_meet
                  exact ⟨by simp, below_drewN (Below.refl _ _) _⟩
                | false =>
                  clear hvn
                  go_quiet (fail)
                  go_wp2_with fail
                  go_meet
                  exact ⟨by simp, below_drewN (Below.refl _ _) _⟩
              -- >>visits
              case rest =>
                obtain ⟨rfl, hb7⟩ := hcut
                rename_i w7
                have hB7 := Lib.hid (hb5.out.trans (hb7.mono hb5.out.size))
                have hgt7 := Lib.hid (hgt.out _ hB7.out)
                clear hb7 k0 hqb hvn hgt hLn hMo
                go_wp2_with fail
                refine hgt7.out.mono ?_
                clear hgt7
                rintro e w8 ⟨rfl, hb8⟩
                have hB8 := Lib.hid (hB7.out.trans (hb8.mono hB7.out.size))
                clear hb8
                have hk2 : ¬ ((k : Int) < (n : Int)) := by omega
                cases aft with
                | false =>
                  go_wp2_with fail
                  go_roundg (cl - n)
                  case rel => exact ⟨n + 1, q1, true, by omega, by omega, by go_num, rfl, rfl, hnn.out, fun _ q h => hnl.out q h, hB.out.trans (hB8.out.mono hB.out.size)⟩
                  case measure => omega
                | true =>
                  have hle3 := hle2.out rfl
                  go_wp2_with fail
                  go_roundg (cl - n)
                  case rel => exact ⟨n + 1, q1, true, by omega, by omega, by go_num, rfl, rfl, hnn.out, fun _ q h => hnl.out q h, hB.out.trans (hB8.out.mono hB.out.size)⟩
                  case measure => omega
            · obtain rfl : n = cl := by omega
              have hq : C[n]? = none := List.getElem?_eq_none (by have := hcl.out; omega)
              rw [hq] at hct
              rw [show nextV none = .tuple #[.string s0, .string s0, .bool false, .bool false] from rfl] at hct
              replace hct := Lib.hid hct
              clear hab hGt hq hsrt hlt
              go_wp2_with fail
              refine hct.out.mono ?_
              clear hct
              rintro e w5 ⟨vn, rfl, hb5, hbox, hvn⟩
              have k0 : w5.cell? ⟨wr.heap.size, 0, none⟩ = some (.int .i64 vn) := by rw [cell_of_heap hbox]; rfl
              have hqb := heap_lt hbox
              replace hb5 := Lib.hid hb5
              clear hbox
              obtain ⟨nn, hnf, hlv⟩ := hTx.out.live
              have hCh := Lib.hid fun W (hW : Below wx.heap.size wx W) => (hTx.out.below hW).check (by omega) (by have := hcl.out; omega)
              rw [← hcl.out] at hnf
              replace hlv := Lib.hid hlv
              replace hnf := Lib.hid hnf
              go_wp2_with fail
              -- <<visits2
              go_cut [191] (fun v wz => v = .bool false ∧ Below w5.heap.size w5 wz)
              case first =>
                cases fat with
                | true =>
                  have hdv : decide ((2 : Int) + (mo : Int) < vn) = false := by
                    have := hvn rfl
                    rw [decide_eq_false_iff_not]; omega
                  clear hvn
                  go_quiet (first | (go_at_call 24; exact Calls.quiet_of_same (hLn.out _ (below_drewN hb5.out _))) | (go_at_call 28; exact Calls.quiet_of_same (hMo.out _)))
                  go_wp2_with fail
                  go_meet
                  exact ⟨by simp, below_drewN (Below.refl _ _) _⟩
                | false =>
                  clear hvn
                  go_quiet (fail)
                  go_wp2_with fail
                  go_meet
                  exact ⟨by simp, below_drewN (Below.refl _ _) _⟩
              -- >>visits2
              case rest =>
                obtain ⟨rfl, hb7⟩ := hcut
                rename_i w7
                have hB7 := hb5.out.trans (hb7.mono hb5.out.size)
                have hL7 := Lib.hid (hLn.out _ hB7)
                have hB8 := hB.out.trans (hB7.mono hB.out.size)
                have hC7 := Lib.hid (hCh.out _ hB8)
                replace hB8 := Lib.hid hB8
                clear hb7 hB7 k0 hqb hvn hLn hMo hCh
                go_wp2_with fail
                refine hL7.out.mono ?_
                clear hL7
                rintro e w8 ⟨rfl, rfl⟩
                go_wp2_with fail
                refine hC7.out.mono ?_
                clear hC7
                rintro e w9 ⟨rfl, hb9⟩
                have hB9 := Lib.hid (hB8.out.trans (hb9.mono hB8.out.size))
                have hs9 := Lib.hid (hlv.out _ hB9.out).1
                clear hb9 hB8
                go_wp2_with fail
                refine hs9.out.mono ?_
                clear hs9
                rintro e w10 ⟨rfl, hb10⟩
                have hB10 := Lib.hid (hB9.out.trans (hb10.mono hB9.out.size))
                have hs10 := Lib.hid (hlv.out _ hB10.out).2
                clear hb10 hB9
                go_wp2_with fail
                refine hs10.out.mono ?_
                clear hs10
                rintro e w11 ⟨rfl, hb11⟩
                have hB11 := Lib.hid (hB10.out.trans (hb11.mono hB10.out.size))
                have hs11 := Lib.hid (hlv.out _ hB11.out).1
                clear hb11 hB10
                cases fat with
                | false =>
                  go_wp2_with fail
                  go_ret
                  exact ⟨by simp, hbx.out.trans (hB11.out.mono hbx.out.size)⟩
                | true =>
                  have hnf2 := hnf.out rfl
                  have hw2 : IntKind.i64.wrap ((n : Int) + 2) = (n : Int) + 2 := IntWalk.i64_in _ (by omega)
                  have hle4 : (nn : Int) ≤ (n : Int) + 2 := by omega
                  go_wp2_with fail
                  refine hs11.out.mono ?_
                  clear hs11
                  rintro e w12 ⟨rfl, hb12⟩
                  have hB12 := Lib.hid (hB11.out.trans (hb12.mono hB11.out.size))
                  clear hb12
                  go_wp2_with fail
                  go_ret
                  exact ⟨by simp, hbx.out.trans (hB12.out.mono hbx.out.size)⟩
end Go.Proofs.Ytlhobbfncjjeaaa
