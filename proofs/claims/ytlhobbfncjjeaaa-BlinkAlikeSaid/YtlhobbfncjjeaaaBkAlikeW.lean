/- The walk of the law BlinkAlike. -/
import Derived.Test.YtlhobbfncjjeaaaBkPairs
namespace Go.Proofs.Ytlhobbfncjjeaaa
open Go.RowKit
def acel10 (x : A10) : List Value := [.int .i64 x.1, .string x.2.1, .string x.2.2.1, .bool x.2.2.2]
theorem acel10_len (x : A10) : (acel10 x).length = 4 := rfl
theorem acel10_one (x : A10) : ∀ y ∈ acel10 x, y.oneCell' = true := by intro y hy; simp [acel10] at hy; rcases hy with rfl | rfl | rfl | rfl <;> rfl
theorem act10_info : ∃ i0 : TypeInfo, Try.prog.info? 57 = some i0 ∧ i0.zero = some (.agg #[.int .i64 0, .string ⟨#[]⟩, .string ⟨#[]⟩, .bool false]) ∧ i0.size = 4 ∧ i0.bytes = 48 := info_parts (show (Try.prog.info? 57).map (fun i => (i.zero, i.size, i.bytes)) = some (some (.agg #[.int .i64 0, .string ⟨#[]⟩, .string ⟨#[]⟩, .bool false]), 4, 48) by kernel_rfl)
theorem acts_of_row {w : World} {base : Nat} {s : Option Addr} {c : Nat} {L : List A10} (h : Row base 57 4 acel10 w (.slice s L.length c) L) : Acts w s L := fun k x hx => by
  obtain ⟨b, cap, ev, _, _, hb, _, _, _, hat⟩ := h.at hx
  injection ev with ev _ _
  exact ⟨b, 0, ev, hb, ⟨by simpa using hat 0 _ rfl, by simpa using hat 1 _ rfl, by simpa using hat 2 _ rfl, by simpa using hat 3 _ rfl⟩⟩
set_option maxRecDepth 100000 in
set_option maxHeartbeats 4000000 in
theorem alikeLaw_walk (s : Option Addr) (len cap : Nat) (rows : List (List Value)) (key : ByteArray) (after : Bool) (w : World) (hr : IsFlat [.inl .i64, .inr false, .inr false, .inr true] w s len rows) (hk : key.size ≤ maxLen) :
    Calls Try.prog 4 #[.slice s len cap, .string key, .bool after] w fun e w' => e = .returned (.bool true) ∧ Below w.heap.size w w' := by
  have hlen : len ≤ maxLen := by
    rcases hr with ⟨h0, _⟩ | ⟨_, _, _, h1, _⟩
    · rw [h0]; exact Nat.zero_le _
    · exact h1
  obtain ⟨L, rfl, hL, hsz⟩ := acts_of_flat hr
  clear hr
  have hAw := Lib.hid (awake10_any w)
  have hGr := Lib.hid fun W (hW : Below w.heap.size w W) => great10_any s cap L W (hL.below hW) hsz hlen
  have hMa := Lib.hid fun W (hW : Below w.heap.size w W) h300 => made10_any s cap L W (hL.below hW) h300
  unfold maxLen at hk hlen
  clear hL
  go_enter Try.func4, Try.ntmps4
  go_wp2_with fail
  refine hAw.out.mono ?_
  clear hAw
  rintro e w1 ⟨rfl, hb1⟩
  go_wp2_with fail
  refine (hGr.out w1 hb1).mono ?_
  clear hGr
  rintro e w2 ⟨rfl | ⟨rfl, h300⟩, hb2⟩
  · replace hb2 := Lib.hid (hb1.trans (hb2.mono hb1.size))
    go_wp2_with fail
    go_ret
    exact ⟨rfl, hb2.out⟩
  have hb12 := hb1.trans (hb2.mono hb1.size)
  by_cases h2000 : 2000 < key.size
  · have hd : decide ((2000 : Int) < (key.size : Int)) = true := by rw [decide_eq_true_iff]; omega
    replace hb12 := Lib.hid hb12
    go_wp2_with fail
    go_ret
    exact ⟨by simp, hb12.out⟩
  have hd : decide ((2000 : Int) < (key.size : Int)) = false := by rw [decide_eq_false_iff_not]; omega
  have hMd := Lib.hid (hMa.out w2 hb12 h300)
  replace hb12 := Lib.hid hb12
  clear hMa hb1 hb2
  go_wp2_with fail
  refine hMd.out.mono ?_
  clear hMd
  rintro e w3 ⟨p, t, rfl, hT, hCl⟩
  have hC100 : (doneC L).length ≤ 100000 := by omega
  have hAll := Lib.hid (hT.all hC100)
  have hsrt := Lib.hid hT.sorted
  have hb3 := Lib.hid (hb12.out.trans (hT.bel.mono hb12.out.size))
  have hT3 := Lib.hid hT
  obtain ⟨C, hC⟩ : ∃ C, C = doneC L := ⟨_, rfl⟩
  rw [← hC] at hCl hAll hsrt hT3 hC100
  clear hT hC hb12
  go_wp2_with fail
  refine hAll.out.mono ?_
  clear hAll
  rintro e w4 ⟨aa, ac, rfl, hra, hb4⟩
  have hT4 := Lib.hid (hT3.out.below hb4)
  have hb34 := Lib.hid (hb3.out.trans (hb4.mono hb3.out.size))
  have hpc := Lib.hid fun W (hW : Below w4.heap.size w4 W) i x hx => pair_cells (hra.at'.below hW) (i := i) (x := x) hx
  have hra' := Lib.hid hra.at'
  clear hra hT3 hb3 hb4
  obtain ⟨n, hn⟩ : ∃ n, n = C.length := ⟨_, rfl⟩
  rw [← hn] at hCl hC100 ⊢
  replace hn := Lib.hid hn
  obtain ⟨i0, hi0, hzA, hzB, hzC⟩ := act10_info
  have hw1 : IntKind.i64.wrap ((n : Int) - 1) = (n : Int) - 1 := IntWalk.i64_in _ (by omega)
  go_wp2_with fail
  go_loopg [11, 12] n (fun gk v11 v12 wr => ∃ (k : Nat), gk = k ∧ k ≤ n ∧ v12 = .int .i64 ((k : Int) - 1) ∧ Row w4.heap.size 57 4 acel10 wr v11 ((C.drop k).reverse.map toAct) ∧ Below w4.heap.size w4 wr)
  case atStart => exact ⟨n, rfl, Nat.le_refl _, rfl, by rw [hn.out, List.drop_length]; exact Row.nil acel10_len acel10_one _ _ _, Below.refl _ _⟩
  case round =>
    obtain ⟨k, hgk, hkn, rfl, hrow, hB⟩ := hrel
    subst hgk
    obtain ⟨va, vc, rfl⟩ := hrow.shape
    cases gk with
    | zero =>
      have hCr : doneC (C.reverse.map toAct) = C := doneC_rev hsrt.out
      have hRl : (C.reverse.map toAct).length = n := by have := hn.out; simp; omega
      rw [List.drop_zero] at hrow ⊢
      have hMb := Lib.hid (made10_any va vc _ wr (acts_of_row hrow) (by omega))
      unfold MadeEnd at hMb
      rw [hCr] at hMb
      have hTa := Lib.hid (hT4.out.below hB)
      have hrb := Lib.hid (hra'.out.below hB)
      have hb4 := Lib.hid (hb34.out.trans (hB.mono hb34.out.size))
      obtain ⟨M, hM⟩ : ∃ M, M = C.reverse.map toAct := ⟨_, rfl⟩
      rw [← hM] at hMb hRl ⊢
      rw [show ((0 : Nat) : Int) - 1 = -1 by omega]
      replace hRl := Lib.hid hRl
      clear hrow hT4 hra' hb34 hB hpc hM hCr
      go_wp2_with fail
      refine hMb.out.mono ?_
      clear hMb
      rintro e w6 ⟨p2, t2, rfl, hTb, _⟩
      have hTa6 := Lib.hid (hTa.out.below hTb.bel)
      have hra6 := Lib.hid (hrb.out.below hTb.bel)
      have hb6 := Lib.hid (hb4.out.trans (hTb.bel.mono hb4.out.size))
      replace hTb := Lib.hid hTb
      clear hTa hrb hb4
      have hgA := Lib.hid fun W (hW : Below w6.heap.size w6 W) => (hTa6.out.below hW).get key
      have hgB := Lib.hid fun W (hW : Below w6.heap.size w6 W) => (hTb.out.below hW).get key
      have hnA := Lib.hid fun W (hW : Below w6.heap.size w6 W) => (hTa6.out.below hW).next key after
      have hnB := Lib.hid fun W (hW : Below w6.heap.size w6 W) => (hTb.out.below hW).next key after
      have hlA := Lib.hid fun W (hW : Below w6.heap.size w6 W) => (hTa6.out.below hW).len
      have hlB := Lib.hid fun W (hW : Below w6.heap.size w6 W) => (hTb.out.below hW).len
      have hcA := Lib.hid fun W (hW : Below w6.heap.size w6 W) => (hTa6.out.below hW).check (by omega) (by have := hn.out; omega)
      have hcB := Lib.hid fun W (hW : Below w6.heap.size w6 W) => (hTb.out.below hW).check (by omega) (by have := hn.out; omega)
      have haB := Lib.hid fun W (hW : Below w6.heap.size w6 W) => (hTb.out.below hW).all (by have := hn.out; omega)
      have hpr := Lib.hid fun W (hW : Below w6.heap.size w6 W) a c (h2 : At W 2 pcel a c C) => pairs10_any aa a ac c C W (hra6.out.below hW) h2 (by have := hn.out; omega)
      unfold AllEnd at haB
      rw [← hn.out] at hlA hlB hpr haB
      obtain ⟨gs, hgs⟩ : ∃ gs, gs = (cget C key).getD s0 := ⟨_, rfl⟩
      obtain ⟨gb, hgb⟩ : ∃ gb, gb = (cget C key).isSome := ⟨_, rfl⟩
      rw [← hgs, ← hgb] at hgA hgB
      obtain ⟨nk, nv, nb, hnx⟩ : ∃ (nk nv : Str) (nb : Bool), nextV (cnext C key after) = .tuple #[.string nk, .string nv, .bool nb, .bool false] := ⟨_, _, _, rfl⟩
      rw [hnx] at hnA hnB
      clear hgs hgb hnx
      go_wp2_with fail
      refine (hgA.out _ (Below.refl _ _)).mono ?_
      rintro e w7 ⟨rfl, hb7⟩
      go_wp2_with fail
      refine (hgB.out _ hb7).mono ?_
      rintro e w8 ⟨rfl, hb8⟩
      replace hb8 := hb7.trans (hb8.mono hb7.size)
      clear hb7
      go_wp2_with fail
      refine (hnA.out _ hb8).mono ?_
      rintro e w9 ⟨rfl, hb9⟩
      replace hb9 := hb8.trans (hb9.mono hb8.size)
      clear hb8
      go_wp2_with fail
      refine (hnB.out _ hb9).mono ?_
      rintro e w10 ⟨rfl, hb10⟩
      replace hb10 := hb9.trans (hb10.mono hb9.size)
      clear hb9
      go_wp2_with fail
      refine (haB.out _ hb10).mono ?_
      rintro e w11 ⟨a2, c2, rfl, hr2, hb11⟩
      replace hb11 := hb10.trans (hb11.mono hb10.size)
      rw [hn.out] at hr2
      have hp2 := Lib.hid (hpr.out w11 hb11 a2 c2 hr2.at')
      clear hb10 hr2
      replace hb11 := Lib.hid hb11
      go_wp2_with fail
      refine hp2.out.mono ?_
      clear hp2
      rintro e w12 ⟨rfl, hb12⟩
      have hb13 := Lib.hid (hb11.out.trans (hb12.mono hb11.out.size))
      clear hb12 hb11
      go_wp2_with fail
      refine (hlA.out _ hb13.out).mono ?_
      rintro e w13 ⟨rfl, rfl⟩
      go_wp2_with fail
      refine (hlB.out _ hb13.out).mono ?_
      rintro e w13 ⟨rfl, rfl⟩
      go_wp2_with fail
      refine (hlA.out _ hb13.out).mono ?_
      rintro e w13 ⟨rfl, rfl⟩
      go_wp2_with fail
      refine (hcA.out _ hb13.out).mono ?_
      rintro e w14 ⟨rfl, hb14⟩
      have hb15 := Lib.hid (hb13.out.trans (hb14.mono hb13.out.size))
      clear hb14
      go_wp2_with fail
      refine (hcB.out _ hb15.out).mono ?_
      rintro e w16 ⟨rfl, hb16⟩
      have hb17 := Lib.hid (hb6.out.trans ((hb15.out.trans (hb16.mono hb15.out.size)).mono hb6.out.size))
      clear hb16
      go_wp2_with fail
      go_ret
      exact ⟨by simp, hb17.out⟩
    | succ k =>
      obtain ⟨x, hx⟩ : ∃ x, C[k]? = some x := ⟨_, List.getElem?_eq_getElem (by have := hn.out; omega)⟩
      obtain ⟨b, o, rfl, hbw, hac, hac2, x0, x1⟩ := hpc.out wr hB k x hx
      have hdr : Hid ((C.drop k).reverse.map toAct = (C.drop (k + 1)).reverse.map toAct ++ [toAct x]) := Lib.hid (by
        obtain ⟨h1, h2⟩ := List.getElem?_eq_some_iff.1 hx
        rw [List.drop_eq_getElem_cons h1, h2]
        simp)
      have hll : ((C.drop (k + 1)).reverse.map toAct).length + 1 ≤ 300 := by have := hn.out; simp; omega
      rw [show ((k + 1 : Nat) : Int) - 1 = (k : Int) by omega]
      have hA1 : Below wr.drew.heap.size wr.drew (wr.drew.alloc (.cells #[.int .i64 0, .string x.1, .string x.2, .bool false] 57)) := (Below.refl _ _).alloc (Nat.le_refl _) _
      have hB5 := Lib.hid (hB.drew.trans (hA1.mono hB.drew.size))
      have hR5 := Lib.hid ((hrow.below (Below.refl wr.heap.size wr).drew).below hA1)
      have hS5 := Lib.hid (SrcOf.one wr.drew 57 [.int .i64 0, .string x.1, .string x.2, .bool false] (by intro y hy; simp at hy; rcases hy with rfl | rfl | rfl | rfl <;> rfl))
      have hbs5 := Lib.hid hB5.out.size
      obtain ⟨LL, hLL⟩ : ∃ LL, LL = (C.drop (k + 1)).reverse.map toAct := ⟨_, rfl⟩
      rw [← hLL] at hR5 hdr hll ⊢
      have hlen5 : LL.length + 1 ≤ maxLen := by unfold maxLen; omega
      have hby5 : (LL.length + 1) * 48 ≤ 140737488355328 := by omega
      replace hlen5 := Lib.hid hlen5
      replace hby5 := Lib.hid hby5
      replace hll := Lib.hid hll
      have hA2 : (k : Int) < (n : Int) := by omega
      have hA3 : (0 : Int) ≤ (k : Int) := by omega
      have hw2 : IntKind.i64.wrap ((k : Int) - 1) = (k : Int) - 1 := IntWalk.i64_in _ (by omega)
      have hbw2 := block_lt_of_cell x0
      obtain ⟨x1s, x2s⟩ := x
      simp only at x0 x1 hR5 hS5 hB5 hbs5 hdr
      clear hrow hx hA1 hLL
      go_upto_region 13 with fail
      go_region_law (refine step_append_row (f := acel10) (M := [toAct (x1s, x2s)]) _ rfl (.tmp 55) (.tmp 67) 48 rfl w4.heap.size 57 i0 (.agg #[.int .i64 0, .string ⟨#[]⟩, .string ⟨#[]⟩, .bool false]) 4 48 Try.underlying48 hi0 hzA hzB hzC rfl (by decide) (.slice va LL.length vc) LL (by simp [Act.eval]) hR5.out (.slice (some ⟨wr.drew.heap.size, 0, none⟩) 1 1) (by simp [Act.eval]) hS5.out hlen5.out hby5.out hbs5.out ?_; intro a6 c6 w6 hrow6 hu6 hat6; replace hrow6 := Lib.hid hrow6; replace hu6 := Lib.hid hu6; replace hat6 := Lib.hid hat6)
      all_goals
        go_wp2_with fail
        go_roundg k
        case rel =>
          refine ⟨k, rfl, by omega, rfl, ?_, hB5.out.trans (hu6.out.below hB5.out.size (fun b hb => (hR5.out.lt b (by simpa using hb)).1))⟩
          rw [hdr.out]
          simpa using hrow6.out
        case measure => omega
end Go.Proofs.Ytlhobbfncjjeaaa
