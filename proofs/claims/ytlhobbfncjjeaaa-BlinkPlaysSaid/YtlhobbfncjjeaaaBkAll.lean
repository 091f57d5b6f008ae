/- The contract of a B-link tree's All. -/
import Derived.Test.YtlhobbfncjjeaaaBkDelete
import Derived.Test.YtlhobbfncjjeaaaRowSet
namespace Go.Proofs.Ytlhobbfncjjeaaa
open Go.RowKit
def pcel (x : Str × Str) : List Value := [.string x.1, .string x.2]
theorem pcel_len (x : Str × Str) : (pcel x).length = 2 := rfl
theorem pcel_one (x : Str × Str) : ∀ y ∈ pcel x, y.oneCell' = true := by intro y hy; simp [pcel] at hy; rcases hy with rfl | rfl <;> rfl
theorem pr_info : ∃ i0 : TypeInfo, Try.prog.info? 55 = some i0 ∧ i0.zero = some (.agg #[.string ⟨#[]⟩, .string ⟨#[]⟩]) ∧ i0.size = 2 ∧ i0.bytes = 32 := info_parts (show (Try.prog.info? 55).map (fun i => (i.zero, i.size, i.bytes)) = some (some (.agg #[.string ⟨#[]⟩, .string ⟨#[]⟩]), 2, 32) by kernel_rfl)
/-- A slice of pairs of the call's own. -/
def AllEnd (w : World) (C : Cont) (x : Ending) (w' : World) : Prop := ∃ a c, x = .returned (.slice a C.length c) ∧ Row w.heap.size 55 2 pcel w' (.slice a C.length c) C ∧ Below w.heap.size w w'
theorem take_pair {C : Cont} {k : Nat} {p : Str × Str} (h : C[k]? = some p) : C.take (k + 1) = C.take k ++ [p] := by
  obtain ⟨h1, h2⟩ := List.getElem?_eq_some_iff.1 h
  rw [List.take_succ_eq_append_getElem h1, h2]
section
variable {w0 w : World} {ρ : Nat → Nat} {P : Nat × Nat × Nat} {gens : List Int} {free : List Bool} {D : List ArD} {rt i t : Nat} {d : ArD} {Ls : List Lev} {r : Hd} {size : Nat}
set_option maxRecDepth 100000 in
set_option maxHeartbeats 4000000 in
theorem Tr.all (hB : BW w0 w ρ P gens free D) (h : Tr w ρ P D rt i t d Ls r size) (hsm : ∀ x, x ∈ Ls.flatten → x.2.keys.length ≤ 1000) (hcl : (content Ls).length ≤ 100000) :
    Calls Try.prog 22 #[.pointer (some ⟨t, 0, none⟩)] w (AllEnd w (content Ls)) := by
  obtain ⟨S, y, hS, hy⟩ := h.leaf0 s0
  have hLf := h.leaf hB hsm s0 hS hy
  obtain ⟨A, B, eS, _, hA0⟩ := atK_split hy
  obtain ⟨c0, c1, c2, c3, c4, c5, hq⟩ := h.cells
  have hn := none_ok c1
  have hokS := h.tow.ok _ _ hS
  have hA : A = [] := by
    cases A with
    | nil => rfl
    | cons z A =>
      exfalso
      have h1 := hA0 z (by simp)
      have hseg := hokS.seg
      rw [eS] at hseg
      have h2 : NodeOK s0 z.2 := hseg.1
      unfold BN.covers at h1
      cases hb : z.2.bnd
      · rw [hb] at h1; simp at h1
      · rw [hb] at h1
        have := h2.room hb
        rw [this] at h1
        simp at h1
  subst hA
  have hLk := Lib.hid fun (x : Hd × BN) hx => h.look hB (x := x) (mem_flat hS hx)
  have hks := Lib.hid fun (x : Hd × BN) hx => hsm x (mem_flat hS hx)
  rw [content_of hS] at hcl ⊢
  replace hokS := Lib.hid hokS
  replace eS := Lib.hid eS
  replace hLf := Lib.hid hLf
  replace hcl := Lib.hid hcl
  obtain ⟨i0, hi0, hzA, hzB, hzC⟩ := pr_info
  clear h hB hsm hS hy hA0
  go_enter Try.func22, Try.ntmps22
  go_wp2_with fail
  refine hn.mono ?_
  rintro e w1 ⟨rfl, rfl⟩
  go_wp2_with fail
  refine hLf.out.mono ?_
  clear hLf hn
  rintro e w2 ⟨qka, qva, qha, qkc, qvc, qhc, rfl, hnat, hb2⟩
  have hq2 := hb2.size
  have hT0 := heap_alloc_new w2 (.cells #[.bool y.2.leaf, .slice qka y.2.keys.length qkc, .slice qva y.2.vals.length qvc, .slice qha y.2.kids.length qhc, .string y.2.high, .bool y.2.bnd, .int .i64 y.2.next.1, .int .u64 y.2.next.2] 89)
  have hBT : Below w.heap.size w (w2.alloc (.cells #[.bool y.2.leaf, .slice qka y.2.keys.length qkc, .slice qva y.2.vals.length qvc, .slice qha y.2.kids.length qhc, .string y.2.high, .bool y.2.bnd, .int .i64 y.2.next.1, .int .u64 y.2.next.2] 89)) := hb2.trans (((Below.refl _ _).alloc (Nat.le_refl _) _).mono hb2.size)
  replace hBT := Lib.hid hBT
  replace hT0 := Lib.hid hT0
  replace hnat := Lib.hid hnat
  go_wp2_with fail
  go_loopg [3, 5] (B.length + 1) (fun gk v3 v5 wr => ∃ (A : Lev) (x : Hd × BN) (B : Lev), ∃ qka qva qha qkc qvc qhc, gk = B.length + 1 ∧ v5 = .bool true ∧ S = A ++ x :: B ∧ NodeAt w x.2 qka qva qha qkc qvc qhc ∧ wr.heap[w2.heap.size]? = some (.cells #[.bool x.2.leaf, .slice qka x.2.keys.length qkc, .slice qva x.2.vals.length qvc, .slice qha x.2.kids.length qhc, .string x.2.high, .bool x.2.bnd, .int .i64 x.2.next.1, .int .u64 x.2.next.2] 89) ∧ Row (w2.heap.size + 1) 55 2 pcel wr v3 (cont A) ∧ Below w.heap.size w wr)
  case atStart => exact ⟨[], y, B, qka, qva, qha, qkc, qvc, qhc, rfl, rfl, eS.out, hnat.out, hT0.out, Row.nil pcel_len pcel_one _ _ _, hBT.out⟩
  case round =>
    clear hT0 hBT hnat
    obtain ⟨A, x, B, qka3, qva3, qha3, qkc3, qvc3, qhc3, rfl, rfl, eS1, hnat, hT, hrow, hBw⟩ := hrel
    have hlev : LevOK true (A ++ x :: B) := by rw [← eS1]; exact hokS.out
    obtain ⟨⟨lo, hno⟩, hlf, _⟩ := next_step (key := s0) (after := false) hlev
    have hxS : x ∈ S := by rw [eS1]; simp
    have hkx := hks.out x hxS
    have hnx := seg_next hlev.seg
    have hvl := (hno.lf hlf).1
    have hcon : Hid (cont S = cont A ++ x.2.pairs ++ cont B) := Lib.hid (by rw [eS1, cont_append, cont_cons, List.append_assoc])
    obtain ⟨⟨h1, h2⟩, n⟩ := x
    simp only at hno hlf hkx hnx hvl hnat hT hcon
    unfold BN.pairs at hcon
    clear hno
    obtain ⟨lf, K, V, H, hi, bd, nx⟩ := n
    simp only at hlf hkx hnx hvl hnat hT hcon
    subst hlf
    obtain ⟨va, vc, rfl⟩ := hrow.shape
    obtain ⟨c0, c1, c2, c3, c4, c5, c6, c7⟩ := node_cells _ _ _ _ _ _ _ _ _ _ _ _ _ _ hT
    have hqT := heap_lt hT
    replace hvl := Lib.hid hvl
    replace hnat := Lib.hid hnat
    replace hT := Lib.hid hT
    replace hBw := Lib.hid hBw
    replace hnx := Lib.hid hnx
    replace eS1 := Lib.hid eS1
    replace hrow := Lib.hid hrow
    have hclen := Lib.hid (show (cont A).length + (K.zip V).length ≤ 100000 by have := hcl.out; rw [hcon.out] at this; simp at this ⊢; omega)
    clear hlev
    obtain ⟨CA, hCA⟩ : ∃ CA, CA = cont A := ⟨_, rfl⟩
    rw [← hCA] at hrow hcon hclen ⊢
    replace hCA := Lib.hid hCA
    go_wp2_with fail
    go_loopg [3, 25] K.length (fun gk v3 v25 wq => ∃ (k : Nat), gk = K.length - k ∧ k ≤ K.length ∧ v25 = .int .i64 k ∧ Row (w2.heap.size + 1) 55 2 pcel wq v3 (CA ++ (K.zip V).take k) ∧ wq.heap[w2.heap.size]? = some (.cells #[.bool true, .slice qka3 K.length qkc3, .slice qva3 V.length qvc3, .slice qha3 H.length qhc3, .string hi, .bool bd, .int .i64 nx.1, .int .u64 nx.2] 89) ∧ Below w.heap.size w wq)
    case atStart => exact ⟨0, rfl, Nat.zero_le _, rfl, by simpa using hrow.out, hT.out, hBw.out⟩
    case round =>
      clear hrow hT hBw c0 c1 c2 c3 c4 c5 c6 c7 hqT
      obtain ⟨k, rfl, hk, rfl, hrow, hT, hBw⟩ := hrel
      obtain ⟨c0, c1, c2, c3, c4, c5, c6, c7⟩ := node_cells _ _ _ _ _ _ _ _ _ _ _ _ _ _ hT
      have hqT := heap_lt hT
      by_cases hlt : k < K.length
      · obtain ⟨kk, vv, hk1, hv1, hz1⟩ := pair_at (i := k) hvl.out hlt
        obtain ⟨b, o, rfl, _, hkc, hkc63, hkat⟩ := hnat.out.1.str (by show 0 < K.length; omega)
        obtain ⟨b', o', rfl, _, hvc, hvc63, hvat⟩ := hnat.out.2.1.str (by show 0 < V.length; have := hvl.out; omega)
        have g1 := keep hBw (hkat _ _ hk1)
        have g2 := keep hBw (hvat _ _ hv1)
        have hpv : k < V.length := by have := hvl.out; omega
        clear hkat hvat hk1 hv1
        have hlen : (CA ++ (K.zip V).take k).length = CA.length + k := by
          have := hclen.out
          rw [List.length_append, List.length_take, List.length_zip, hvl.out]
          simp; omega
        have hA1 : Below wr.heap.size wr (wr.alloc (.cells #[.string kk, .string vv] 55)) := (Below.refl _ _).alloc (Nat.le_refl _) _
        have hr5 := Lib.hid (hrow.below hA1)
        have hT5 := Lib.hid (Below.heap' hA1 hT)
        have hs5 := Lib.hid (SrcOf.one wr 55 [.string kk, .string vv] (by intro y hy; simp at hy; rcases hy with rfl | rfl <;> rfl))
        have hbb : Hid (w2.heap.size + 1 ≤ (wr.alloc (.cells #[.string kk, .string vv] 55)).heap.size) := Lib.hid (by simp; omega)
        have hbel := Lib.hid (hBw.trans (hA1.mono hBw.size))
        have hzl : (K.zip V).length = K.length := by rw [List.length_zip, hvl.out]; simp
        have hlm : Hid ((CA ++ (K.zip V).take k).length + 1 ≤ maxLen) := Lib.hid (by rw [hlen]; unfold maxLen; have := hclen.out; omega)
        have hly : Hid (((CA ++ (K.zip V).take k).length + 1) * 32 ≤ 140737488355328) := Lib.hid (by rw [hlen]; have := hclen.out; omega)
        obtain ⟨va2, vc2, rfl⟩ := hrow.shape
        replace hzl := Lib.hid hzl
        replace hlen := Lib.hid hlen
        replace hz1 := Lib.hid hz1
        replace hT := Lib.hid hT
        replace hBw := Lib.hid hBw
        obtain ⟨LL, hLL⟩ : ∃ LL, LL = CA ++ (K.zip V).take k := ⟨_, rfl⟩
        rw [← hLL] at hr5 hlm hly hlen ⊢
        replace hLL := Lib.hid hLL
        clear hA1 hrow
        go_wp2_with (at_builtin; refine wpList_append_row (f := pcel) (M := [(kk, vv)]) _ rfl _ _ 52 rfl (w2.heap.size + 1) 55 i0 (.agg #[.string ⟨#[]⟩, .string ⟨#[]⟩]) 2 32 Try.underlying52 hi0 hzA hzB hzC rfl (by decide) (.slice va2 LL.length vc2) LL rfl hr5.out _ rfl hs5.out hlm.out hly.out hbb.out ?_; intro a' c' w6 hrow6 hu6 hat6; replace hrow6 := Lib.hid hrow6; replace hu6 := Lib.hid hu6; replace hat6 := Lib.hid hat6)
        have hroww : Row (w2.heap.size + 1) 55 2 pcel w6 (.slice a' (LL.length + 1) c') (CA ++ (K.zip V).take (k + 1)) := by
          have := hrow6.out
          rw [hLL.out, List.append_assoc, ← take_pair hz1.out, ← hLL.out] at this
          exact this
        have hlow : ∀ b, b ∈ (Value.slice va2 LL.length vc2).ownBlock.toList → w2.heap.size + 1 ≤ b := fun b hb => (hr5.out.lt b (by simpa using hb)).1
        have hbel6 := hbel.out.trans (hu6.out.below hbel.out.size (fun b hb => by have := hlow b hb; omega))
        have hT6 := hu6.out.heap hT5.out (fun hb => by have := hlow _ hb; omega)
        clear hlow
        replace hroww := Lib.hid hroww
        replace hT6 := Lib.hid hT6
        replace hbel6 := Lib.hid hbel6
        go_roundg (K.length - (k + 1))
        case rel => exact ⟨k + 1, rfl, by omega, by go_num, hroww.out, hT6.out, hbel6.out⟩
        case measure => omega
      · obtain rfl : k = K.length := by omega
        have hzl : (K.zip V).length = K.length := by rw [List.length_zip, hvl.out]; simp
        obtain ⟨va2, vc2, rfl⟩ := hrow.shape
        have hrw : Row (w2.heap.size + 1) 55 2 pcel wr (.slice va2 (CA ++ (K.zip V).take K.length).length vc2) (CA ++ K.zip V) := by
          have e : CA ++ K.zip V = CA ++ (K.zip V).take K.length := by rw [List.take_of_length_le (by omega)]
          rw [e]
          exact hrow
        clear hrow
        replace hzl := Lib.hid hzl
        replace hrw := Lib.hid hrw
        replace hT := Lib.hid hT
        replace hBw := Lib.hid hBw
        clear hlt
        obtain ⟨LN, hLN⟩ : ∃ LN, LN = (CA ++ (K.zip V).take K.length).length := ⟨_, rfl⟩
        rw [← hLN] at hrw ⊢
        replace hLN := Lib.hid hLN
        cases bd with
        | false =>
          have hB0 := Lib.hid (hnx.out.2 rfl)
          go_wp2_with fail
          go_ret
          have hc : cont S = CA ++ K.zip V := by rw [hcon.out, hB0.out]; simp [cont]
          have hll : LN = (cont S).length := by rw [hLN.out, hc, List.take_of_length_le (by have := hzl.out; omega)]
          refine ⟨va2, vc2, by rw [← hll]; rfl, ?_, hBw.out⟩
          rw [hc, ← hc, ← hll, hc]
          exact hrw.out.rebase (fun b hb => by have := (hrw.out.lt b hb).1; omega)
        | true =>
          obtain ⟨z, B', hB', hnz⟩ := hnx.out.1 rfl
          subst hB'
          obtain ⟨hz, nz⟩ := z
          simp only at hnz
          subst hnz
          obtain ⟨qka4, qva4, qha4, qkc4, qvc4, qhc4, hnat4, hl4⟩ := hLk.out (nx, nz) (by rw [eS1.out]; simp)
          have hl5 := Lib.hid (hl4 wr hBw.out)
          simp only at hnat4 hl5
          replace hnat4 := Lib.hid hnat4
          clear hl4
          go_wp2_with fail
          refine hl5.out.mono ?_
          clear hl5
          rintro e w5 ⟨rfl, hb5⟩
          have hT5 := Below.heap' hb5 hT.out
          have hBw5 := hBw.out.trans (hb5.mono hBw.out.size)
          have hr5 := Lib.hid (hrw.out.below hb5)
          have y := fun k => frozen_of_heap hT5 k
          obtain ⟨f0, f1, f2, f3, f4, f5, f6, f7⟩ := And.intro (y 0) (And.intro (y 1) (And.intro (y 2) (And.intro (y 3) (And.intro (y 4) (And.intro (y 5) (And.intro (y 6) (y 7)))))))
          clear c0 c1 c2 c3 c4 c5 c6 c7 y hb5
          obtain ⟨c0, c1, c2, c3, c4, c5, c6, c7⟩ := node_cells _ _ _ _ _ _ _ _ _ _ _ _ _ _ hT5
          have hqT5 := heap_lt hT5
          replace hT5 := Lib.hid hT5
          replace hBw5 := Lib.hid hBw5
          go_wp2_with fail
          go_roundg (B'.length + 1)
          case rel =>
            obtain ⟨hst, hus⟩ := node_stored (n2 := nz) (qka2 := qka4) (qva2 := qva4) (qha2 := qha4) (qkc2 := qkc4) (qvc2 := qvc4) (qhc2 := qhc4) hT5.out
            refine ⟨A ++ [((h1, h2), ⟨true, K, V, H, hi, true, nx⟩)], (nx, nz), B', qka4, qva4, qha4, qkc4, qvc4, qhc4, rfl, rfl, by rw [eS1.out]; simp, hnat4.out, hst, ?_, hBw5.out.trans (hus.below hBw5.out.size (by simp; exact hq2))⟩
            have hr6 := hr5.out.upd hus (fun b hb hh => by have := (hr5.out.lt b hb).1; simp at hh; omega)
            rw [cont_append, ← hCA.out]
            have e : CA ++ cont [((h1, h2), ⟨true, K, V, H, hi, true, nx⟩)] = CA ++ K.zip V := by simp [cont, BN.pairs]
            rw [e]
            exact hr6
          case measure => simp
end
end Go.Proofs.Ytlhobbfncjjeaaa
