/- The contracts of the document's functions of pairs: Less, Get, Put, Delete, Done. -/
import Derived.Test.YtlhobbfncjjeaaaBkPairs
import Derived.Test.YtlhobbfncjjeaaaBkReadL
import Derived.Laws.Strings
namespace Go.Proofs.Ytlhobbfncjjeaaa
open Go.RowKit
theorem cmp_drop {A B : List UInt8} {i : Nat} (ha : i < A.length) (hb : i < B.length) : Lib.compareBytes (A.drop i) (B.drop i) = if A[i] < B[i] then -1 else if B[i] < A[i] then 1 else Lib.compareBytes (A.drop (i + 1)) (B.drop (i + 1)) := by
  rw [List.drop_eq_getElem_cons ha, List.drop_eq_getElem_cons hb]
  rfl
/-- A text's byte. -/
def byteAt (s : Str) (i : Nat) : UInt8 := s.data.toList.getD i 0
theorem byte_run {P : Program} (t : TypeId) (ht : P.underlying t = some .string) (s : Str) (i : Nat) (hi : i < s.size) (W : World) : (Instr.index t (.string s) (.int .i64 (i : Int))).run P W = .ok (.int .u8 ((byteAt s i).toNat : Int)) W := by
  rw [run_index_string (h := ht), dif_pos ⟨by omega, by omega⟩]
  congr 3
  unfold byteAt
  rw [List.getD_eq_getElem?_getD, List.getElem?_eq_getElem (by simpa using hi)]
  simp [ByteArray.getElem_eq_getElem_data]
set_option maxHeartbeats 1000000 in
theorem less_any (a b : Str) (hs : a.size ≤ maxLen ∨ b.size ≤ maxLen) (w : World) : Calls Try.prog 47 #[.string a, .string b] w fun e w' => e = .returned (.bool (slt a b)) ∧ Below w.heap.size w w' := by
  unfold maxLen at hs
  have hix : ∀ (s : Str) (i : Nat), i < s.size → ∀ W, (Instr.index 9 (.string s) (.int .i64 (i : Int))).run Try.prog W = .ok (.int .u8 ((byteAt s i).toNat : Int)) W := fun s i hi W => byte_run 9 Try.underlying9 s i hi W
  have hixh := Lib.hid hix
  clear hix
  obtain ⟨n, hn⟩ : ∃ n, n = min a.size b.size := ⟨_, rfl⟩
  replace hn := Lib.hid hn
  go_enter Try.func47, Try.ntmps47
  go_wp2_with fail
  go_loopg [5] (n + 1) (fun gk v wr => ∃ i : Nat, gk = n + 1 - i ∧ i ≤ n ∧ v = .int .i64 i ∧ Lib.compareBytes a.data.toList b.data.toList = Lib.compareBytes (a.data.toList.drop i) (b.data.toList.drop i) ∧ Below w.heap.size w wr)
  case atStart => exact ⟨0, rfl, by omega, rfl, by simp, Below.refl _ _⟩
  case round =>
    obtain ⟨i, rfl, hi, rfl, hc, hB⟩ := hrel
    have hla : a.data.toList.length = a.size := rfl
    have hlb : b.data.toList.length = b.size := rfl
    by_cases hia : i < a.size
    · by_cases hib : i < b.size
      · have hw1 : IntKind.i64.wrap ((i : Int) + 1) = (i : Int) + 1 := IntWalk.i64_in _ (by omega)
        rw [cmp_drop (by omega) (by omega)] at hc
        have e1 : byteAt a i = a.data.toList[i]'(by omega) := by unfold byteAt; rw [List.getD_eq_getElem?_getD, List.getElem?_eq_getElem (by omega)]; rfl
        have e2 : byteAt b i = b.data.toList[i]'(by omega) := by unfold byteAt; rw [List.getD_eq_getElem?_getD, List.getElem?_eq_getElem (by omega)]; rfl
        rw [← e1, ← e2] at hc
        have x1 := hixh.out a i hia
        have x2 := hixh.out b i hib
        generalize byteAt a i = x at *
        generalize byteAt b i = y at *
        have hi1 : (i : Int) < (a.size : Int) := by omega
        have hi2 : (i : Int) < (b.size : Int) := by omega
        clear e1 e2 hixh
        have hbe : ((x.toNat : Int) == (y.toNat : Int)) = decide (x = y) := by
          rw [Bool.eq_iff_iff]
          simp [← UInt8.toNat_inj]
          constructor <;> intro h <;> omega
        replace hB := Lib.hid hB
        by_cases hxy : x = y
        · subst hxy
          have hxx : ¬ x < x := UInt8.lt_irrefl x
          rw [if_neg hxx, if_neg hxx] at hc
          replace hc := Lib.hid hc
          clear hbe hxx
          have hn2 : i + 1 ≤ n := by have := hn.out; omega
          go_wp2_with fail
          go_quiet (fail)
          go_wp2_with fail
          go_roundg (n - i)
          case rel => exact ⟨i + 1, by omega, hn2, by go_num, hc.out, below_drewN hB.out _⟩
          case measure => omega
        · have hne : ((x.toNat : Int) == (y.toNat : Int)) = false := by rw [hbe]; simp [hxy]
          have hlt : slt a b = decide ((x.toNat : Int) < (y.toNat : Int)) := by
            unfold slt scmp
            rw [hc]
            by_cases h1 : x < y
            · have : (x.toNat : Int) < (y.toNat : Int) := by have := UInt8.lt_iff_toNat_lt.1 h1; omega
              simp [h1, this]
            · have h2 : y < x := by
                rcases Nat.lt_trichotomy x.toNat y.toNat with h | h | h
                · exact absurd (UInt8.lt_iff_toNat_lt.2 h) h1
                · exact absurd (UInt8.toNat_inj.1 h) hxy
                · exact UInt8.lt_iff_toNat_lt.2 h
              have : ¬ (x.toNat : Int) < (y.toNat : Int) := fun h => h1 (UInt8.lt_iff_toNat_lt.2 (by omega))
              simp [h1, h2, this]
          replace hlt := Lib.hid hlt
          clear hbe hc hxy
          go_wp2_with fail
          go_quiet (fail)
          go_wp2_with fail
          go_quiet (fail)
          go_wp2_with fail
          go_ret
          exact ⟨by rw [hlt.out]; simp, below_drewN (below_drewN hB.out _) _⟩
      · have hlt : slt a b = decide ((a.size : Int) < (b.size : Int)) := by
          unfold slt scmp
          rw [hc, show b.data.toList.drop i = [] from List.drop_eq_nil_of_le (by omega), List.drop_eq_getElem_cons (l := a.data.toList) (i := i) (by omega)]
          simp [Lib.compareBytes]
          omega
        replace hlt := Lib.hid hlt
        replace hB := Lib.hid hB
        clear hc hixh
        have hi1 : (i : Int) < (a.size : Int) := by omega
        have hi2 : ¬ (i : Int) < (b.size : Int) := by omega
        go_wp2_with fail
        go_ret
        exact ⟨by rw [hlt.out]; simp, hB.out⟩
    · have hlt : slt a b = decide ((a.size : Int) < (b.size : Int)) := by
        unfold slt scmp
        rw [hc, show a.data.toList.drop i = [] from List.drop_eq_nil_of_le (by omega)]
        by_cases hib : i < b.size
        · rw [List.drop_eq_getElem_cons (l := b.data.toList) (i := i) (by omega)]
          simp [Lib.compareBytes]
          omega
        · rw [show b.data.toList.drop i = [] from List.drop_eq_nil_of_le (by omega)]
          simp [Lib.compareBytes]
          have := hn.out
          omega
      replace hlt := Lib.hid hlt
      replace hB := Lib.hid hB
      clear hc hixh
      have hi1 : ¬ (i : Int) < (a.size : Int) := by omega
      go_wp2_with fail
      go_ret
      exact ⟨by rw [hlt.out]; simp, hB.out⟩
/-- Texts are the same as Go sees it. -/
theorem beq_str (a b : Str) : (a.toList == b.toList) = decide (a = b) := by
  rw [ByteArray.toList_eq, ByteArray.toList_eq]
  by_cases h : a = b
  · subst h; simp
  · rw [decide_eq_false h, beq_eq_false_iff_ne]
    exact fun e => h (str_ext e)
theorem r9get_any (a : Option Addr) (c : Nat) (C : Cont) (key : Str) (w : World) (h : At w 2 pcel a c C) (hC : C.length ≤ 100000) :
    Calls Try.prog 45 #[.slice a C.length c, .string key] w fun e w' => e = .returned (.tuple #[.string ((cget C key).getD s0), .bool (cget C key).isSome]) ∧ w = w' := by
  have hpc := Lib.hid fun i x hx => pair_cells h (i := i) (x := x) hx
  clear h
  obtain ⟨n, hn⟩ : ∃ n, n = C.length := ⟨_, rfl⟩
  rw [← hn] at hC ⊢
  replace hn := Lib.hid hn
  go_enter Try.func45, Try.ntmps45
  go_wp2_with fail
  go_loopg [6] n (fun gk v wr => ∃ k : Nat, gk = n - k ∧ k ≤ n ∧ v = .int .i64 k ∧ cget C key = cget (C.drop k) key ∧ w = wr)
  case atStart => exact ⟨0, rfl, by omega, rfl, by simp, rfl⟩
  case round =>
    obtain ⟨k, rfl, hk, rfl, hg, rfl⟩ := hrel
    by_cases hlt : k < n
    · obtain ⟨x, hx⟩ : ∃ x, C[k]? = some x := ⟨_, List.getElem?_eq_getElem (by have := hn.out; omega)⟩
      obtain ⟨b, o, rfl, hb1, hl1, hc1, k0, k1⟩ := hpc.out k x hx
      have hd : C.drop k = x :: C.drop (k + 1) := by
        obtain ⟨h1, h2⟩ := List.getElem?_eq_some_iff.1 hx
        rw [List.drop_eq_getElem_cons h1, h2]
      rw [hd] at hg
      have hA2 : (k : Int) < (n : Int) := by omega
      have hA3 : (0 : Int) ≤ (k : Int) := by omega
      have hw1 : IntKind.i64.wrap ((k : Int) + 1) = (k : Int) + 1 := IntWalk.i64_in _ (by omega)
      obtain ⟨p, q⟩ := x
      simp only at k0 k1
      have hbq := beq_str p key
      by_cases hpk : p = key
      · rw [decide_eq_true hpk] at hbq
        have hres : cget C key = some q := by rw [hg]; simp [cget, hpk]
        replace hres := Lib.hid hres
        clear hg hpk hx hd
        go_wp2_with fail
        go_ret2
        exact ⟨by rw [hres.out]; rfl, rfl⟩
      · rw [decide_eq_false hpk] at hbq
        have hres : Hid (cget C key = cget (C.drop (k + 1)) key) := Lib.hid (by rw [hg]; simp [cget, hpk])
        clear hg hpk hx hd
        go_wp2_with fail
        go_roundg (n - (k + 1))
        case rel => exact ⟨k + 1, rfl, by omega, by go_num, hres.out, rfl⟩
        case measure => omega
    · obtain rfl : k = n := by omega
      have hres : cget C key = none := by
        rw [hg, List.drop_eq_nil_of_le (by have := hn.out; omega)]
        rfl
      replace hres := Lib.hid hres
      clear hg
      go_wp2_with fail
      go_ret2
      exact ⟨by rw [hres.out]; rfl, rfl⟩
theorem pair9_info : ∃ i0 : TypeInfo, Try.prog.info? 101 = some i0 ∧ i0.zero = some (.agg #[.string ⟨#[]⟩, .string ⟨#[]⟩]) ∧ i0.size = 2 ∧ i0.bytes = 32 := info_parts (show (Try.prog.info? 101).map (fun i => (i.zero, i.size, i.bytes)) = some (some (.agg #[.string ⟨#[]⟩, .string ⟨#[]⟩]), 2, 32) by kernel_rfl)
/-- A new own row of pairs. -/
def PairsEnd (w : World) (C : Cont) (e : Ending) (w' : World) : Prop := ∃ a c, e = .returned (.slice a C.length c) ∧ Row w.heap.size 101 2 pcel w' (.slice a C.length c) C ∧ Below w.heap.size w w'
theorem cdel_snoc {C : Cont} {k : Nat} {x : Str × Str} {key : Str} (h : C[k]? = some x) : cdel (C.take (k + 1)) key = if x.1 = key then cdel (C.take k) key else cdel (C.take k) key ++ [x] := by
  rw [take_next h]
  unfold cdel
  rw [List.filter_append]
  by_cases e : x.1 = key <;> simp [e]
set_option maxHeartbeats 1000000 in
theorem r9del_any (a : Option Addr) (c : Nat) (C : Cont) (key : Str) (w : World) (h : At w 2 pcel a c C) (hC : C.length ≤ 100000) :
    Calls Try.prog 40 #[.slice a C.length c, .string key] w (PairsEnd w (cdel C key)) := by
  have hpc := Lib.hid fun i x hx => pair_cells h (i := i) (x := x) hx
  clear h
  obtain ⟨i0, hi0, hzA, hzB, hzC⟩ := pair9_info
  obtain ⟨n, hn⟩ : ∃ n, n = C.length := ⟨_, rfl⟩
  rw [← hn] at hC ⊢
  replace hn := Lib.hid hn
  go_enter Try.func40, Try.ntmps40
  go_wp2_with fail
  go_loopg [5, 6] n (fun gk m v wr => ∃ k : Nat, gk = n - k ∧ k ≤ n ∧ v = .int .i64 k ∧ Row w.heap.size 101 2 pcel wr m (cdel (C.take k) key) ∧ Below w.heap.size w wr)
  case atStart => exact ⟨0, rfl, by omega, rfl, Row.nil pcel_len pcel_one _ _ _, Below.refl _ _⟩
  case round =>
    obtain ⟨k, rfl, hk, rfl, hrow, hB⟩ := hrel
    obtain ⟨va, vc, rfl⟩ := hrow.shape
    by_cases hlt : k < n
    · obtain ⟨x, hx⟩ : ∃ x, C[k]? = some x := ⟨_, List.getElem?_eq_getElem (by have := hn.out; omega)⟩
      obtain ⟨b, o, rfl, hb1, hl1, hc1, k0, k1⟩ := hpc.out k x hx
      have hsn := cdel_snoc (key := key) hx
      have hll : (cdel (C.take k) key).length ≤ k := by
        have h1 : (cdel (C.take k) key).length ≤ (C.take k).length := List.length_filter_le _ _
        rw [List.length_take] at h1
        omega
      replace k0 := keep hB k0
      replace k1 := keep hB k1
      have hbq := block_lt_of_cell k0
      obtain ⟨M, hM⟩ : ∃ M, M = cdel (C.take k) key := ⟨_, rfl⟩
      rw [← hM] at hrow hsn hll ⊢
      clear hM
      have hA2 : (k : Int) < (n : Int) := by omega
      have hA3 : (0 : Int) ≤ (k : Int) := by omega
      have hw1 : IntKind.i64.wrap ((k : Int) + 1) = (k : Int) + 1 := IntWalk.i64_in _ (by omega)
      obtain ⟨p, q⟩ := x
      simp only at k0 k1 hsn
      have hbe := beq_str p key
      replace hrow := Lib.hid hrow
      replace hB := Lib.hid hB
      clear hx
      by_cases hpk : p = key
      · rw [decide_eq_true hpk] at hbe
        rw [if_pos hpk] at hsn
        replace hsn := Lib.hid hsn
        clear hpk
        go_wp2_with fail
        go_roundg (n - (k + 1))
        case rel => exact ⟨k + 1, rfl, by omega, by go_num, by rw [hsn.out]; exact hrow.out, hB.out⟩
        case measure => omega
      · rw [decide_eq_false hpk] at hbe
        rw [if_neg hpk] at hsn
        replace hsn := Lib.hid hsn
        clear hpk
        have hA5 : Below wr.heap.size wr (wr.alloc (.cells #[.string p, .string q] 101)) := (Below.refl _ _).alloc (Nat.le_refl _) _
        have hR5 := Lib.hid (hrow.out.below hA5)
        have hS5 := Lib.hid (SrcOf.one wr 101 [.string p, .string q] (by intro y hy; simp at hy; rcases hy with rfl | rfl <;> rfl))
        have hBB5 := Lib.hid (hB.out.trans (hA5.mono hB.out.size))
        have hbb5 := Lib.hid hBB5.out.size
        have hlm5 : Hid (M.length + 1 ≤ maxLen) := Lib.hid (by unfold maxLen; omega)
        have hly5 : Hid ((M.length + 1) * 32 ≤ 140737488355328) := Lib.hid (by omega)
        clear hA5
        go_wp2_with (at_builtin; refine wpList_append_row (f := pcel) (M := [(p, q)]) _ rfl _ _ 37 rfl w.heap.size 101 i0 (.agg #[.string ⟨#[]⟩, .string ⟨#[]⟩]) 2 32 Try.underlying37 hi0 hzA hzB hzC rfl (by decide) (.slice va M.length vc) M rfl hR5.out _ rfl hS5.out hlm5.out hly5.out hbb5.out ?_; intro a5 c5 w5 hrow5 hu5 hat5; replace hrow5 := Lib.hid hrow5; replace hu5 := Lib.hid hu5; replace hat5 := Lib.hid hat5)
        have hB5 := Lib.hid (hBB5.out.trans (hu5.out.below hBB5.out.size (fun b hb => (hR5.out.lt b (by simpa using hb)).1)))
        clear hR5 hS5 hBB5 hbb5 hlm5 hly5 hu5 hat5
        go_roundg (n - (k + 1))
        case rel => exact ⟨k + 1, rfl, by omega, by go_num, by rw [hsn.out]; simpa using hrow5.out, hB5.out⟩
        case measure => omega
    · obtain rfl : k = n := by omega
      have hLt : C.take k = C := List.take_of_length_le (by have := hn.out; omega)
      have hrow2 : Hid (PairsEnd w (cdel C key) (.returned (.slice va (cdel (C.take k) key).length vc)) wr) := Lib.hid (by rw [hLt] at hrow ⊢; exact ⟨va, vc, rfl, hrow, hB⟩)
      clear hLt hrow hB
      go_wp2_with fail
      go_ret
      exact hrow2.out
/-- A step of the document's Put. -/
def putStep (key v : Str) (s : Bool × Cont) (p : Str × Str) : Bool × Cont :=
  let s1 := if !s.1 && !slt p.1 key then (true, s.2 ++ [(key, v)]) else s
  if p.1 = key then s1 else (s1.1, s1.2 ++ [p])
theorem putStep_done {key v : Str} : ∀ {C : Cont}, (∀ p, p ∈ C → sle key p.1 = true) → ∀ M, C.foldl (putStep key v) (true, M) = (true, M ++ C.filter fun p => slt key p.1)
  | [], _, M => by simp
  | p :: C, h, M => by
    rw [List.foldl_cons]
    have hp := h p (by simp)
    have hC := fun q hq => h q (List.mem_cons_of_mem p hq)
    by_cases e : p.1 = key
    · have : putStep key v (true, M) p = (true, M) := by simp [putStep, e]
      rw [this, putStep_done hC, List.filter_cons, if_neg (by rw [e, slt_irrefl]; simp)]
    · have : putStep key v (true, M) p = (true, M ++ [p]) := by simp [putStep, e]
      have h2 : slt key p.1 = true := by
        rcases sle_or hp with h1 | h1
        · exact absurd h1.symm e
        · exact h1
      rw [this, putStep_done hC, List.filter_cons, if_pos h2]
      simp
theorem putStep_all {key v : Str} : ∀ {C : Cont}, CSort C → ∀ M, (let s := C.foldl (putStep key v) (false, M); if s.1 then s.2 else s.2 ++ [(key, v)]) = M ++ cput C key v
  | [], _, M => by simp [cput]
  | p :: C, h, M => by
    obtain ⟨h1, h2⟩ := List.pairwise_cons.1 h
    rw [List.foldl_cons]
    by_cases hl : slt p.1 key = true
    · have e : ¬ p.1 = key := slt_ne hl
      have : putStep key v (false, M) p = (false, M ++ [p]) := by simp [putStep, e, hl]
      rw [this, putStep_all h2]
      unfold cput
      rw [List.filter_cons, if_pos hl, List.filter_cons, if_neg (by rw [slt_asymm hl]; simp)]
      simp
    · have hl' : slt p.1 key = false := by simpa using hl
      have hle : sle key p.1 = true := sle_iff.2 hl'
      have hC : ∀ q, q ∈ C → slt key q.1 = true := fun q hq => sle_slt hle (h1 q hq)
      have hCl : C.filter (fun q => slt q.1 key) = [] := filter_none fun q hq => slt_asymm (hC q hq)
      have hCg : C.filter (fun q => slt key q.1) = C := filter_all hC
      by_cases e : p.1 = key
      · have : putStep key v (false, M) p = (true, M ++ [(key, v)]) := by simp [putStep, e, slt_irrefl]
        rw [this, putStep_done (fun q hq => slt_sle (hC q hq))]
        have f1 : (p :: C).filter (fun q => slt q.1 key) = [] := by rw [List.filter_cons, hCl]; simp [hl']
        have f2 : (p :: C).filter (fun q => slt key q.1) = C := by rw [List.filter_cons, hCg]; simp [e, slt_irrefl]
        unfold cput
        rw [f1, f2, hCg]
        simp
      · have : putStep key v (false, M) p = (true, M ++ [(key, v)] ++ [p]) := by simp [putStep, e, hl']
        have hg : slt key p.1 = true := by
          rcases sle_or hle with h3 | h3
          · exact absurd h3.symm e
          · exact h3
        rw [this, putStep_done (fun q hq => slt_sle (hC q hq))]
        have f1 : (p :: C).filter (fun q => slt q.1 key) = [] := by rw [List.filter_cons, hCl]; simp [hl']
        have f2 : (p :: C).filter (fun q => slt key q.1) = p :: C := by rw [List.filter_cons, hCg]; simp [hg]
        unfold cput
        rw [f1, f2, hCg]
        simp
theorem putStep_snoc {C : Cont} {k : Nat} {x : Str × Str} {key v : Str} (h : C[k]? = some x) : (C.take (k + 1)).foldl (putStep key v) (false, []) = putStep key v ((C.take k).foldl (putStep key v) (false, [])) x := by
  rw [take_next h]
  simp
set_option maxRecDepth 100000 in
set_option maxHeartbeats 2000000 in
theorem r9put_any (a : Option Addr) (c : Nat) (C : Cont) (key value : Str) (w : World) (h : At w 2 pcel a c C) (hs : CSort C) (hC : C.length ≤ 100000) (hkm : key.size ≤ maxLen) :
    Calls Try.prog 41 #[.slice a C.length c, .string key, .string value] w (PairsEnd w (cput C key value)) := by
  have hpc := Lib.hid fun i x hx => pair_cells h (i := i) (x := x) hx
  have hall := Lib.hid (putStep_all (key := key) (v := value) hs [])
  have hLe := Lib.hid fun p W => less_any p key (.inr hkm) W
  clear h hs hkm
  obtain ⟨i0, hi0, hzA, hzB, hzC⟩ := pair9_info
  obtain ⟨n, hn⟩ : ∃ n, n = C.length := ⟨_, rfl⟩
  rw [← hn] at hC ⊢
  replace hn := Lib.hid hn
  go_enter Try.func41, Try.ntmps41
  go_wp2_with fail
  go_loopg [7, 8, 9] n (fun gk m dv v wr => ∃ (k : Nat) (D : Bool) (M : Cont), gk = n - k ∧ k ≤ n ∧ v = .int .i64 k ∧ dv = .bool D ∧ (D, M) = (C.take k).foldl (putStep key value) (false, []) ∧ M.length ≤ 2 * k ∧ Row w.heap.size 101 2 pcel wr m M ∧ Below w.heap.size w wr)
  case atStart => exact ⟨0, false, [], rfl, by omega, rfl, rfl, rfl, by simp, Row.nil pcel_len pcel_one _ _ _, Below.refl _ _⟩
  case round =>
    obtain ⟨k, D, M, rfl, hk, rfl, rfl, hDM, hll, hrow, hB⟩ := hrel
    obtain ⟨va, vc, rfl⟩ := hrow.shape
    by_cases hlt : k < n
    · obtain ⟨x, hx⟩ : ∃ x, C[k]? = some x := ⟨_, List.getElem?_eq_getElem (by have := hn.out; omega)⟩
      obtain ⟨b, o, rfl, hb1, hl1, hc1, k0, k1⟩ := hpc.out k x hx
      have hst := putStep_snoc (key := key) (v := value) hx
      rw [← hDM] at hst
      have hA2 : (k : Int) < (n : Int) := by omega
      have hA3 : (0 : Int) ≤ (k : Int) := by omega
      have hw1 : IntKind.i64.wrap ((k : Int) + 1) = (k : Int) + 1 := IntWalk.i64_in _ (by omega)
      obtain ⟨p, q⟩ := x
      simp only at k0 k1
      have hbe := beq_str p key
      have j0 := Lib.hid fun W (hW : Below w.heap.size w W) => And.intro (keep hW k0) (keep hW k1)
      replace hrow := Lib.hid hrow
      clear hx hDM k0 k1
      obtain ⟨k0, k1⟩ := j0.out wr hB
      have hbq := block_lt_of_cell k0
      replace hB := Lib.hid hB
      cases D with
      | true =>
        by_cases hpk : p = key
        · have hbe2 : (p.toList == key.toList) = true := by rw [hbe, decide_eq_true hpk]
          have hst2 : Hid ((C.take (k + 1)).foldl (putStep key value) (false, []) = (true, M)) := Lib.hid (by rw [hst]; simp [putStep, hpk])
          clear hpk hbe hst
          go_wp2_with fail
          go_roundg (n - (k + 1))
          case rel => exact ⟨k + 1, true, M, rfl, by omega, by go_num, rfl, hst2.out.symm, by omega, hrow.out, hB.out⟩
          case measure => omega
        · have hbe2 : (p.toList == key.toList) = false := by rw [hbe, decide_eq_false hpk]
          have hst2 : Hid ((C.take (k + 1)).foldl (putStep key value) (false, []) = (true, M ++ [(p, q)])) := Lib.hid (by rw [hst]; simp [putStep, hpk])
          clear hpk hbe hst
          have hA5 : Below wr.heap.size wr (wr.alloc (.cells #[.string p, .string q] 101)) := (Below.refl _ _).alloc (Nat.le_refl _) _
          have hR5 := Lib.hid (hrow.out.below hA5)
          have hS5 := Lib.hid (SrcOf.one wr 101 [.string p, .string q] (by intro y hy; simp at hy; rcases hy with rfl | rfl <;> rfl))
          have hBB5 := Lib.hid (hB.out.trans (hA5.mono hB.out.size))
          have hbb5 := Lib.hid hBB5.out.size
          have hlm5 : Hid (M.length + 1 ≤ maxLen) := Lib.hid (by unfold maxLen; omega)
          have hly5 : Hid ((M.length + 1) * 32 ≤ 140737488355328) := Lib.hid (by omega)
          clear hA5
          go_wp2_with (at_builtin; refine wpList_append_row (f := pcel) (M := [(p, q)]) _ rfl _ _ 37 rfl w.heap.size 101 i0 (.agg #[.string ⟨#[]⟩, .string ⟨#[]⟩]) 2 32 Try.underlying37 hi0 hzA hzB hzC rfl (by decide) (.slice va M.length vc) M rfl hR5.out _ rfl hS5.out hlm5.out hly5.out hbb5.out ?_; intro a5 c5 w5 hrow5 hu5 hat5; replace hrow5 := Lib.hid hrow5; replace hu5 := Lib.hid hu5; replace hat5 := Lib.hid hat5)
          have hB5 := Lib.hid (hBB5.out.trans (hu5.out.below hBB5.out.size (fun b hb => (hR5.out.lt b (by simpa using hb)).1)))
          clear hR5 hS5 hBB5 hbb5 hlm5 hly5 hu5 hat5
          go_roundg (n - (k + 1))
          case rel => exact ⟨k + 1, true, M ++ [(p, q)], rfl, by omega, by go_num, rfl, hst2.out.symm, by simp; omega, by simpa using hrow5.out, hB5.out⟩
          case measure => omega
      | false =>
        go_wp2_with fail
        refine (hLe.out p _).mono ?_
        rintro e w4 ⟨rfl, hb4⟩
        have hB4 := hB.out.trans (hb4.mono hB.out.size)
        have hrow4 := Lib.hid (hrow.out.below hb4)
        clear hrow hB k0 k1 hbq hb4
        obtain ⟨k0, k1⟩ := j0.out w4 hB4
        have hbq := block_lt_of_cell k0
        replace hB4 := Lib.hid hB4
        cases hsl : slt p key with
        | true =>
          have hpk : ¬ p = key := slt_ne hsl
          have hbe2 : (p.toList == key.toList) = false := by rw [hbe, decide_eq_false hpk]
          have hst2 : Hid ((C.take (k + 1)).foldl (putStep key value) (false, []) = (false, M ++ [(p, q)])) := Lib.hid (by rw [hst]; simp [putStep, hpk, hsl])
          clear hpk hbe hst hsl
          have hA5 : Below w4.heap.size w4 (w4.alloc (.cells #[.string p, .string q] 101)) := (Below.refl _ _).alloc (Nat.le_refl _) _
          have hR5 := Lib.hid (hrow4.out.below hA5)
          have hS5 := Lib.hid (SrcOf.one w4 101 [.string p, .string q] (by intro y hy; simp at hy; rcases hy with rfl | rfl <;> rfl))
          have hBB5 := Lib.hid (hB4.out.trans (hA5.mono hB4.out.size))
          have hbb5 := Lib.hid hBB5.out.size
          have hlm5 : Hid (M.length + 1 ≤ maxLen) := Lib.hid (by unfold maxLen; omega)
          have hly5 : Hid ((M.length + 1) * 32 ≤ 140737488355328) := Lib.hid (by omega)
          clear hA5
          go_wp2_with (at_builtin; refine wpList_append_row (f := pcel) (M := [(p, q)]) _ rfl _ _ 37 rfl w.heap.size 101 i0 (.agg #[.string ⟨#[]⟩, .string ⟨#[]⟩]) 2 32 Try.underlying37 hi0 hzA hzB hzC rfl (by decide) (.slice va M.length vc) M rfl hR5.out _ rfl hS5.out hlm5.out hly5.out hbb5.out ?_; intro a5 c5 w5 hrow5 hu5 hat5; replace hrow5 := Lib.hid hrow5; replace hu5 := Lib.hid hu5; replace hat5 := Lib.hid hat5)
          have hB5 := Lib.hid (hBB5.out.trans (hu5.out.below hBB5.out.size (fun b hb => (hR5.out.lt b (by simpa using hb)).1)))
          clear hR5 hS5 hBB5 hbb5 hlm5 hly5 hu5 hat5
          go_roundg (n - (k + 1))
          case rel => exact ⟨k + 1, false, M ++ [(p, q)], rfl, by omega, by go_num, rfl, hst2.out.symm, by simp; omega, by simpa using hrow5.out, hB5.out⟩
          case measure => omega
        | false =>
          by_cases hpk : p = key
          · have hbe2 : (p.toList == key.toList) = true := by rw [hbe, decide_eq_true hpk]
            have hst2 : Hid ((C.take (k + 1)).foldl (putStep key value) (false, []) = (true, M ++ [(key, value)])) := Lib.hid (by rw [hst]; simp [putStep, hpk, slt_irrefl])
            clear hpk hbe hst hsl
            have hA5 : Below w4.heap.size w4 (w4.alloc (.cells #[.string key, .string value] 101)) := (Below.refl _ _).alloc (Nat.le_refl _) _
            have hR5 := Lib.hid (hrow4.out.below hA5)
            have hS5 := Lib.hid (SrcOf.one w4 101 [.string key, .string value] (by intro y hy; simp at hy; rcases hy with rfl | rfl <;> rfl))
            have hBB5 := Lib.hid (hB4.out.trans (hA5.mono hB4.out.size))
            have hbb5 := Lib.hid hBB5.out.size
            have hlm5 : Hid (M.length + 1 ≤ maxLen) := Lib.hid (by unfold maxLen; omega)
            have hly5 : Hid ((M.length + 1) * 32 ≤ 140737488355328) := Lib.hid (by omega)
            clear hA5
            go_wp2_with (at_builtin; refine wpList_append_row (f := pcel) (M := [(key, value)]) _ rfl _ _ 37 rfl w.heap.size 101 i0 (.agg #[.string ⟨#[]⟩, .string ⟨#[]⟩]) 2 32 Try.underlying37 hi0 hzA hzB hzC rfl (by decide) (.slice va M.length vc) M rfl hR5.out _ rfl hS5.out hlm5.out hly5.out hbb5.out ?_; intro a5 c5 w5 hrow5 hu5 hat5; replace hrow5 := Lib.hid hrow5; replace hu5 := Lib.hid hu5; replace hat5 := Lib.hid hat5; have hB5x := hBB5.out.trans (hu5.out.below hBB5.out.size (fun b hb => (hR5.out.lt b (by simpa using hb)).1)); obtain ⟨k0, k1⟩ := j0.out w5 hB5x; have hbq := block_lt_of_cell k0; clear hB5x)
            have hB5 := Lib.hid (hBB5.out.trans (hu5.out.below hBB5.out.size (fun b hb => (hR5.out.lt b (by simpa using hb)).1)))
            clear hR5 hS5 hBB5 hbb5 hlm5 hly5 hu5 hat5
            go_roundg (n - (k + 1))
            case rel => exact ⟨k + 1, true, M ++ [(key, value)], rfl, by omega, by go_num, rfl, hst2.out.symm, by simp; omega, by simpa using hrow5.out, hB5.out⟩
            case measure => omega
          · have hbe2 : (p.toList == key.toList) = false := by rw [hbe, decide_eq_false hpk]
            have hst2 : Hid ((C.take (k + 1)).foldl (putStep key value) (false, []) = (true, M ++ [(key, value)] ++ [(p, q)])) := Lib.hid (by rw [hst]; simp [putStep, hpk, hsl])
            clear hpk hbe hst hsl
            have hA5 : Below w4.heap.size w4 (w4.alloc (.cells #[.string key, .string value] 101)) := (Below.refl _ _).alloc (Nat.le_refl _) _
            have hR5 := Lib.hid (hrow4.out.below hA5)
            have hS5 := Lib.hid (SrcOf.one w4 101 [.string key, .string value] (by intro y hy; simp at hy; rcases hy with rfl | rfl <;> rfl))
            have hBB5 := Lib.hid (hB4.out.trans (hA5.mono hB4.out.size))
            have hbb5 := Lib.hid hBB5.out.size
            have hlm5 : Hid (M.length + 1 ≤ maxLen) := Lib.hid (by unfold maxLen; omega)
            have hly5 : Hid ((M.length + 1) * 32 ≤ 140737488355328) := Lib.hid (by omega)
            clear hA5
            go_upto_region 10 with (at_builtin; refine wpList_append_row (f := pcel) (M := [(key, value)]) _ rfl _ _ 37 rfl w.heap.size 101 i0 (.agg #[.string ⟨#[]⟩, .string ⟨#[]⟩]) 2 32 Try.underlying37 hi0 hzA hzB hzC rfl (by decide) (.slice va M.length vc) M rfl hR5.out _ rfl hS5.out hlm5.out hly5.out hbb5.out ?_; intro a5 c5 w5 hrow5 hu5 hat5; replace hrow5 := Lib.hid hrow5; replace hu5 := Lib.hid hu5; replace hat5 := Lib.hid hat5; have hB5x := hBB5.out.trans (hu5.out.below hBB5.out.size (fun b hb => (hR5.out.lt b (by simpa using hb)).1)); obtain ⟨k0, k1⟩ := j0.out w5 hB5x; have hbq := block_lt_of_cell k0; clear hB5x)
            have hB5 := Lib.hid (hBB5.out.trans (hu5.out.below hBB5.out.size (fun b hb => (hR5.out.lt b (by simpa using hb)).1)))
            clear hR5 hS5 hBB5 hbb5 hlm5 hly5 hu5 hat5
            obtain ⟨M5, hM5⟩ : ∃ M5, M5 = M ++ [(key, value)] := ⟨_, rfl⟩
            have hl5 : M5.length = M.length + 1 := by rw [hM5]; simp
            have hrowM : Hid (Row w.heap.size 101 2 pcel w5 (.slice a5 M5.length c5) M5) := Lib.hid (by rw [hM5]; simpa using hrow5.out)
            rw [← hM5] at hst2
            rw [show M.length + 1 = M5.length from hl5.symm]
            clear hM5 hrow5
            have hA6 : Below w5.heap.size w5 (w5.alloc (.cells #[.string p, .string q] 101)) := (Below.refl _ _).alloc (Nat.le_refl _) _
            have hR6 := Lib.hid (hrowM.out.below hA6)
            have hS6 := Lib.hid (SrcOf.one w5 101 [.string p, .string q] (by intro y hy; simp at hy; rcases hy with rfl | rfl <;> rfl))
            have hBB6 := Lib.hid (hB5.out.trans (hA6.mono hB5.out.size))
            have hbb6 := Lib.hid hBB6.out.size
            have hlm6 : Hid (M5.length + 1 ≤ maxLen) := Lib.hid (by unfold maxLen; omega)
            have hly6 : Hid ((M5.length + 1) * 32 ≤ 140737488355328) := Lib.hid (by omega)
            clear hA6
            go_wp2_with (at_builtin; refine wpList_append_row (f := pcel) (M := [(p, q)]) _ rfl _ _ 37 rfl w.heap.size 101 i0 (.agg #[.string ⟨#[]⟩, .string ⟨#[]⟩]) 2 32 Try.underlying37 hi0 hzA hzB hzC rfl (by decide) (.slice a5 M5.length c5) M5 rfl hR6.out _ rfl hS6.out hlm6.out hly6.out hbb6.out ?_; intro a6 c6 w6 hrow6 hu6 hat6; replace hrow6 := Lib.hid hrow6; replace hu6 := Lib.hid hu6; replace hat6 := Lib.hid hat6)
            have hB6 := Lib.hid (hBB6.out.trans (hu6.out.below hBB6.out.size (fun b hb => (hR6.out.lt b (by simpa using hb)).1)))
            clear hR6 hS6 hBB6 hbb6 hlm6 hly6 hu6 hat6
            go_roundg (n - (k + 1))
            case rel => exact ⟨k + 1, true, M5 ++ [(p, q)], rfl, by omega, by go_num, rfl, hst2.out.symm, by simp; omega, by have h6 := hrow6.out; rw [hl5] at h6; simpa using h6, hB6.out⟩
            case measure => omega
    · obtain rfl : k = n := by omega
      have hLt : C.take k = C := List.take_of_length_le (by have := hn.out; omega)
      rw [hLt] at hDM
      have hal := hall.out
      rw [← hDM] at hal
      simp only [List.nil_append] at hal
      replace hrow := Lib.hid hrow
      replace hB := Lib.hid hB
      clear hDM hall hLt
      cases D with
      | true =>
        simp only [if_true] at hal
        have hrow2 : Hid (PairsEnd w (cput C key value) (.returned (.slice va M.length vc)) wr) := Lib.hid (by rw [← hal]; exact ⟨va, vc, rfl, hrow.out, hB.out⟩)
        clear hal
        go_wp2_with fail
        go_ret
        exact hrow2.out
      | false =>
        simp only [Bool.false_eq_true, if_false] at hal
        replace hal := Lib.hid hal
        have hA5 : Below wr.heap.size wr (wr.alloc (.cells #[.string key, .string value] 101)) := (Below.refl _ _).alloc (Nat.le_refl _) _
        have hR5 := Lib.hid (hrow.out.below hA5)
        have hS5 := Lib.hid (SrcOf.one wr 101 [.string key, .string value] (by intro y hy; simp at hy; rcases hy with rfl | rfl <;> rfl))
        have hBB5 := Lib.hid (hB.out.trans (hA5.mono hB.out.size))
        have hbb5 := Lib.hid hBB5.out.size
        have hlm5 : Hid (M.length + 1 ≤ maxLen) := Lib.hid (by unfold maxLen; omega)
        have hly5 : Hid ((M.length + 1) * 32 ≤ 140737488355328) := Lib.hid (by omega)
        clear hA5
        go_wp2_with (at_builtin; refine wpList_append_row (f := pcel) (M := [(key, value)]) _ rfl _ _ 37 rfl w.heap.size 101 i0 (.agg #[.string ⟨#[]⟩, .string ⟨#[]⟩]) 2 32 Try.underlying37 hi0 hzA hzB hzC rfl (by decide) (.slice va M.length vc) M rfl hR5.out _ rfl hS5.out hlm5.out hly5.out hbb5.out ?_; intro a5 c5 w5 hrow5 hu5 hat5; replace hrow5 := Lib.hid hrow5; replace hu5 := Lib.hid hu5; replace hat5 := Lib.hid hat5)
        have hB5 := Lib.hid (hBB5.out.trans (hu5.out.below hBB5.out.size (fun b hb => (hR5.out.lt b (by simpa using hb)).1)))
        clear hR5 hS5 hBB5 hbb5 hlm5 hly5 hu5 hat5
        go_ret
        exact ⟨a5, c5, by rw [← hal.out]; simp, by rw [← hal.out]; simpa using hrow5.out, hB5.out⟩
end Go.Proofs.Ytlhobbfncjjeaaa
