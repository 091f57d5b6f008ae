/- The contract of a B-link tree's path. The contract of a B-link tree's need. -/
import Derived.Test.YtlhobbfncjjeaaaBkNext
namespace Go.Proofs.Ytlhobbfncjjeaaa
open Go.RowKit
def hdl (key : Str) (R : Lev) : Hd := match atK R key with
  | some x => x.1
  | none => (0, 0)
/-- The handles on the way, from the top down. -/
def pathOf (Ls : List Lev) (key : Str) : List Hd := (Ls.map (hdl key)).reverse
theorem hdl_of {R : Lev} {key : Str} {x : Hd × BN} (h : atK R key = some x) : hdl key R = x.1 := by unfold hdl; rw [h]
theorem pathOf_len (Ls : List Lev) (key : Str) : (pathOf Ls key).length = Ls.length := by simp [pathOf]
theorem pathOf_get {Ls : List Lev} {key : Str} {j : Nat} {R : Lev} {x : Hd × BN} (hR : Ls[j]? = some R) (hx : atK R key = some x) : (pathOf Ls key)[Ls.length - 1 - j]? = some x.1 := by
  have hj := (List.getElem?_eq_some_iff.1 hR).1
  unfold pathOf
  rw [List.getElem?_reverse (by simp; omega)]
  simp only [List.length_map]
  rw [show Ls.length - 1 - (Ls.length - 1 - j) = j by omega, List.getElem?_map, hR]
  simp [hdl_of hx]
/-- A part of it: from the top down to level j. -/
theorem path_step {Ls : List Lev} {key : Str} {j : Nat} {S : Lev} {z : Hd × BN} (hS : Ls[j]? = some S) (hz : atK S key = some z) : ((Ls.drop j).map (hdl key)).reverse = ((Ls.drop (j + 1)).map (hdl key)).reverse ++ [z.1] := by
  obtain ⟨hj, e⟩ := List.getElem?_eq_some_iff.1 hS
  rw [List.drop_eq_getElem_cons hj, e]
  simp [hdl_of hz]
section
variable {w0 w : World} {ρ : Nat → Nat} {P : Nat × Nat × Nat} {gens : List Int} {free : List Bool} {D : List ArD} {rt i t : Nat} {d : ArD} {Ls : List Lev} {r : Hd} {size : Nat}
/-- A node's entry: where it lies, its slices, and Get in whatever world that came of this one. -/
theorem Tr.entry (hB : BW w0 w ρ P gens free D) (h : Tr w ρ P D rt i t d Ls r size) {x : Hd × BN} (hx : x ∈ Ls.flatten) :
    ∃ e, e ∈ d.A.L ∧ (e.slot : Int) = x.1.1 ∧ e.gen = x.1.2 ∧ ∃ qka qva qha qkc qvc qhc, NodeAt w x.2 qka qva qha qkc qvc qhc ∧ w.heap[e.blk]? = some (.cells (.int .u64 e.gen :: [.bool x.2.leaf, .slice qka x.2.keys.length qkc, .slice qva x.2.vals.length qvc, .slice qha x.2.kids.length qhc, .string x.2.high, .bool x.2.bnd, .int .i64 x.2.next.1, .int .u64 x.2.next.2]).toArray 130) ∧
      ∀ W, Below w.heap.size w W → Calls Try.prog 52 #[.pointer (some ⟨d.A.a, 0, none⟩), .agg #[.int .i64 x.1.1, .int .u64 x.1.2]] W fun y w' => y = .returned (.tuple #[.pointer (some ⟨e.blk, 1, none⟩), .bool true]) ∧ Below W.heap.size W w' := by
  obtain ⟨e, he, e1, e2, qka, qva, qha, qkc, qvc, qhc, e3, e4, _⟩ := h.ent x hx
  have hc := hB.cellsOf h.hd h.tc he
  rw [e3] at hc
  exact ⟨e, he, e1, e2, qka, qva, qha, qkc, qvc, qhc, e4, hc, fun W hW => (hB.below hW).get h.hd h.ta h.tc he e1 e2⟩
theorem hd_info : ∃ i0 : TypeInfo, Try.prog.info? 70 = some i0 ∧ i0.zero = some (.agg #[.int .i64 0, .int .u64 0]) ∧ i0.size = 2 ∧ i0.bytes = 16 := info_parts (show (Try.prog.info? 70).map (fun i => (i.zero, i.size, i.bytes)) = some (some (.agg #[.int .i64 0, .int .u64 0]), 2, 16) by kernel_rfl)
def PathEnd (w : World) (L : List Hd) (x : Ending) (w' : World) : Prop := ∃ a c, x = .returned (.slice a L.length c) ∧ Row w.heap.size 70 2 hcel w' (.slice a L.length c) L ∧ Below w.heap.size w w'
set_option maxRecDepth 100000 in
set_option maxHeartbeats 1000000 in
theorem Tr.path (hB : BW w0 w ρ P gens free D) (h : Tr w ρ P D rt i t d Ls r size) (hsm : ∀ x, x ∈ Ls.flatten → x.2.keys.length ≤ 1000) (hll : Ls.length ≤ 1000) (key : Str) :
    Calls Try.prog 51 #[.pointer (some ⟨t, 0, none⟩), .string key] w (PathEnd w (pathOf Ls key)) := by
  obtain ⟨n0, htop⟩ := h.top
  have hat0 := h.tow.atTop htop key
  obtain ⟨c0, c1, c2, c3, c4, c5, hq⟩ := h.cells
  have hl0 : 0 < Ls.length := by have := (List.getElem?_eq_some_iff.1 htop).1; omega
  have hEn := Lib.hid fun (x : Hd × BN) hx => h.entry hB (x := x) hx
  have hok := Lib.hid fun (j : Nat) (R : Lev) (x : Hd × BN) hR hx => h.okn (j := j) (R := R) (x := x) hR hx
  have htw := Lib.hid h.tow
  obtain ⟨i0, hi0, hzA, hzB, hzC⟩ := hd_info
  replace hsm := Lib.hid hsm
  have hst : Row w.heap.size 70 2 hcel (w.alloc (.cells #[.int .i64 r.1, .int .u64 r.2] 70)) (.slice (some ⟨w.heap.size, 0, none⟩) 1 1) [r] :=
    ⟨hcel_len, hcel_one, rfl, .inr ⟨w.heap.size, 1, _, rfl, Nat.le_refl _, heap_alloc_new _ _, Nat.le_refl _, by unfold maxLen; omega, rfl, rfl⟩⟩
  replace hst := Lib.hid hst
  replace htop := Lib.hid htop
  replace hat0 := Lib.hid hat0
  clear h hB
  go_enter Try.func51, Try.ntmps51
  go_wp2_with fail
  go_loopg [5] Ls.length (fun gk v wr => ∃ (j : Nat) (R : Lev) (x : Hd × BN) (m b cap : Nat), gk = j + 1 ∧ v = .slice (some ⟨b, 0, none⟩) (m + 1) cap ∧ Ls[j]? = some R ∧ atK R key = some x ∧ m + j + 1 = Ls.length ∧ Below w.heap.size w wr ∧ Row w.heap.size 70 2 hcel wr (.slice (some ⟨b, 0, none⟩) (m + 1) cap) ((Ls.drop j).map (hdl key)).reverse)
  case atStart =>
    refine ⟨Ls.length - 1, _, _, 0, _, _, by omega, rfl, htop.out, hat0.out, by omega, (Below.refl _ _).alloc (Nat.le_refl _) _, ?_⟩
    have e := path_step htop.out hat0.out
    rw [show Ls.length - 1 + 1 = Ls.length by omega, List.drop_length] at e
    rw [e]
    exact hst.out
  case round =>
    obtain ⟨j, R, x, m, b, cap, rfl, rfl, hR, hx, hmj, hB, hrow⟩ := hrel
    obtain ⟨hxm, hxc⟩ := atK_mem hx
    obtain ⟨⟨lo, hno⟩, hlf⟩ := hok.out j R x hR hxm
    have hks := hsm.out x (mem_flat hR hxm)
    obtain ⟨e, he, e1, e2, qka, qva, qha, qkc, qvc, qhc, hnat, hcel0, hG⟩ := hEn.out x (mem_flat hR hxm)
    have hdn : Hid (∀ i, j = i + 1 → ∃ S z, Ls[i]? = some S ∧ atK S key = some z ∧ x.2.kids[cutE key x.2.keys]? = some z.1) := Lib.hid fun i hi => by
      subst hi
      exact htw.out.down hR hx
    have hlen : ((Ls.drop j).map (hdl key)).reverse.length = m + 1 := by simp; omega
    have hlast : ((Ls.drop j).map (hdl key)).reverse[m]? = some x.1 := by
      rw [path_step hR hx, List.getElem?_append_right (by simp; omega), show m - ((Ls.drop (j + 1)).map (hdl key)).reverse.length = 0 by simp; omega]
      rfl
    obtain ⟨b', cap', ev, _, hb1, hb2, hb3, hb4, hb5, hat⟩ := hrow.at hlast
    injection ev with ev hle ev2
    clear hle
    injection ev with ev
    injection ev with ev
    subst ev ev2
    have k0 := hat 0 _ rfl
    have k1 := hat 1 _ rfl
    clear hat
    rw [Nat.add_zero] at k0
    have c1' := keep hB c1
    have hbl : b < wr.heap.size := hb2
    obtain ⟨⟨h1, h2⟩, n⟩ := x
    simp only at hno hlf hks hnat hcel0 hG hdn hxc k0 k1 hlast
    have hKd := Lib.hid fun (z : Hd) (hlf0 : n.leaf = false) (hz : n.kids[cutE key n.keys]? = some z) W hW => nKid_ok n qka qva qha qkc qvc qhc key z W hno (hnat.below (w' := W) n qka qva qha qkc qvc qhc hW) hks hlf0 hxc hz
    obtain ⟨x1, x2, x3, x4, x5, x6, x7, x8⟩ := node_cells1 n qka qva qha qkc qvc qhc hcel0
    generalize e.blk = q at *
    clear he e1 e2 hcel0 hnat hno hxc hx hR hxm
    obtain ⟨k, hk⟩ : ∃ k, k = m + 1 := ⟨_, rfl⟩
    rw [← hk] at hrow hlen ⊢
    have hw1 : IntKind.i64.wrap ((k : Int) - 1) = m := by rw [show ((k : Int) - 1) = m by omega]; exact IntWalk.i64_in _ (by omega)
    have hmk : m < k := by omega
    have hmk0 : (0 : Int) ≤ (m : Int) := by omega
    have hmk1 : (m : Int) < (k : Int) := by omega
    clear hb3 hb5
    replace hk := Lib.hid hk
    replace hmj := Lib.hid hmj
    replace hG := Lib.hid hG
    replace hB := Lib.hid hB
    replace hrow := Lib.hid hrow
    replace hlast := Lib.hid hlast
    replace hlen := Lib.hid hlen
    have hqw : q < w.heap.size := block_lt_of_cell x1
    obtain ⟨lf, K, V, H, hi, bd, nx⟩ := n
    simp only at hKd hdn hlf hks x1 x2 x3 x4 x5 x6 x7 x8
    have hxs := Lib.hid (And.intro x1 (And.intro x2 (And.intro x3 (And.intro x4 (And.intro x5 (And.intro x6 (And.intro x7 x8)))))))
    clear x1 x2 x3 x4 x5 x6 x7 x8
    go_upto_region 2 with fail
    rcases j with _ | j
    · have e0 : lf = true := by simpa using hlf
      subst e0
      clear hlf
      go_region_with (go_at_call 52; refine (hG.out _ hB.out.drew).mono ?_; rintro z w1 ⟨rfl, hb1⟩; have hbw := hB.out.drew.trans (hb1.mono hB.out.drew.size); have hrw := (hrow.out.below (Below.refl wr.heap.size wr).drew).below hb1; have x1 := keep hbw hxs.out.1; replace hbw := Lib.hid hbw; replace hrw := Lib.hid hrw; clear hb1)
      all_goals
        go_wp2_with fail
        go_ret
        have hpe : pathOf Ls key = ((Ls.drop 0).map (hdl key)).reverse := by simp [pathOf]
        refine ⟨some ⟨b, 0, none⟩, cap, ?_, ?_, hbw.out⟩
        · rw [hpe, hlen.out]; rfl
        · rw [hpe, hlen.out]
          exact hrw.out
    · have e0 : lf = false := by simpa using hlf
      subst e0
      clear hlf
      obtain ⟨S, z, hS1, hz1, hz2⟩ := hdn.out j rfl
      replace hS1 := Lib.hid hS1
      replace hz1 := Lib.hid hz1
      replace hz2 := Lib.hid hz2
      go_region_with (go_at_call 52; refine (hG.out _ hB.out.drew).mono ?_; rintro z1 w1 ⟨rfl, hb1⟩; have hbw := hB.out.drew.trans (hb1.mono hB.out.drew.size); have hrw := (hrow.out.below (Below.refl wr.heap.size wr).drew).below hb1; obtain ⟨y1, y2, y3, y4, y5, y6, y7, y8⟩ := hxs.out; have x1 := keep hbw y1; have x2 := keep hbw y2; have x3 := keep hbw y3; have x4 := keep hbw y4; have x5 := keep hbw y5; have x6 := keep hbw y6; have x7 := keep hbw y7; have x8 := keep hbw y8; clear y1 y2 y3 y4 y5 y6 y7 y8; replace hbw := Lib.hid hbw; replace hrw := Lib.hid hrw; clear hb1)
      all_goals
        go_wp2_with fail
        refine (hKd.out z.1 trivial hz2.out w1 hbw.out).mono ?_
        rintro e w3 ⟨rfl, hb3⟩
        have hbw3 := hbw.out.trans (hb3.mono hbw.out.size)
        have hrw3 := hrw.out.below hb3
        clear x1 x2 x3 x4 x5 x6 x7 x8 hb3 hbw hrw k0 k1
        replace hbw3 := Lib.hid hbw3
        replace hrw3 := Lib.hid hrw3
        have hA1 : Below w3.heap.size w3 (w3.alloc (.cells #[.int .i64 z.1.1, .int .u64 z.1.2] 70)) := (Below.refl _ _).alloc (Nat.le_refl _) _
        have hA2 : Below (w3.alloc (.cells #[.int .i64 z.1.1, .int .u64 z.1.2] 70)).heap.size (w3.alloc (.cells #[.int .i64 z.1.1, .int .u64 z.1.2] 70)) ((w3.alloc (.cells #[.int .i64 z.1.1, .int .u64 z.1.2] 70)).alloc (.cells #[.int .i64 z.1.1, .int .u64 z.1.2] 70)) := (Below.refl _ _).alloc (Nat.le_refl _) _
        have hr5 := Lib.hid ((hrw3.out.below hA1).below hA2)
        have hs5 := SrcOf.one (w3.alloc (.cells #[.int .i64 z.1.1, .int .u64 z.1.2] 70)) 70 [.int .i64 z.1.1, .int .u64 z.1.2] (by intro y hy; simp at hy; rcases hy with rfl | rfl <;> rfl)
        have hbb := Lib.hid (Nat.le_trans hbw3.out.size (Nat.le_trans hA1.size hA2.size))
        have hbel := Lib.hid (hbw3.out.trans ((hA1.trans (hA2.mono hA1.size)).mono hbw3.out.size))
        rw [show (w3.alloc (.cells #[.int .i64 z.1.1, .int .u64 z.1.2] 70)).heap.size = w3.heap.size + 1 by simp] at hs5
        replace hs5 := Lib.hid hs5
        have hlm : Hid (((Ls.drop (j + 1)).map (hdl key)).reverse.length + 1 ≤ maxLen) := Lib.hid (by rw [hlen.out]; unfold maxLen; have := hk.out; have := hmj.out; omega)
        have hly : Hid ((((Ls.drop (j + 1)).map (hdl key)).reverse.length + 1) * 16 ≤ 140737488355328) := Lib.hid (by rw [hlen.out]; have := hk.out; have := hmj.out; omega)
        clear hA1 hA2
        go_wp2_with (at_builtin; refine wpList_append_row (f := hcel) (M := [z.1]) _ rfl _ _ 76 rfl w.heap.size 70 i0 (.agg #[.int .i64 0, .int .u64 0]) 2 16 Try.underlying76 hi0 hzA hzB hzC rfl (by decide) (.slice (some ⟨b, 0, none⟩) k cap) ((Ls.drop (j + 1)).map (hdl key)).reverse rfl hr5.out _ rfl hs5.out hlm.out hly.out hbb.out ?_; intro a' c' w6 hrow6 hu6 hat6; replace hrow6 := Lib.hid hrow6; replace hu6 := Lib.hid hu6; replace hat6 := Lib.hid hat6)
        have hne : ∃ b6, a' = some ⟨b6, 0, none⟩ := by
          rcases hrow6.out.cases with ⟨_, h0⟩ | ⟨b6, cap6, e6, _⟩
          · simp at h0
          · injection e6 with e6
            exact ⟨b6, e6⟩
        obtain ⟨b6, rfl⟩ := hne
        go_roundg (j + 1)
        case rel =>
          have hkk : k = Ls.length - (j + 1) := by have := hk.out; have := hmj.out; omega
          have hll2 : ((Ls.drop (j + 1)).map (hdl key)).reverse.length = k := hlen.out
          have hrow7 := hrow6.out
          rw [← path_step hS1.out hz1.out, hll2] at hrow7
          refine ⟨j, S, z, k, b6, c', rfl, by rw [hkk], hS1.out, hz1.out, by have := hk.out; have := hmj.out; omega, hbel.out.trans (hu6.out.below hbb.out (fun y hy => ?_)), hrow7⟩
          have := mem_own hy
          simp [Value.ownBlock] at this
          omega
        case measure => omega
end
end Go.Proofs.Ytlhobbfncjjeaaa
namespace Go.Proofs.Ytlhobbfncjjeaaa
open Go.RowKit
def kcount (key : Str) (R : Lev) : Nat := match atK R key with
  | some x => x.2.keys.length
  | none => 0
def needL : List Nat → Nat
  | [] => 1
  | c :: cs => if c < 4 then 0 else 1 + needL cs
/-- How many slots a key more takes. -/
def needOf (Ls : List Lev) (key : Str) : Nat := needL (Ls.map (kcount key))
theorem kcount_of {R : Lev} {key : Str} {x : Hd × BN} (h : atK R key = some x) : kcount key R = x.2.keys.length := by unfold kcount; rw [h]
theorem need_step {Ls : List Lev} {key : Str} {i : Nat} {R : Lev} {x : Hd × BN} (hR : Ls[i]? = some R) (hx : atK R key = some x) : needOf (Ls.drop i) key = if x.2.keys.length < 4 then 0 else 1 + needOf (Ls.drop (i + 1)) key := by
  obtain ⟨hi, e⟩ := List.getElem?_eq_some_iff.1 hR
  unfold needOf
  rw [List.drop_eq_getElem_cons hi, e, List.map_cons, needL, kcount_of hx]
theorem Tower.at {Ls : List Lev} (ht : Tower Ls) {i : Nat} {R : Lev} (hR : Ls[i]? = some R) (key : Str) : ∃ x, atK R key = some x := seg_find (ht.ok _ _ hR).seg
section
variable {w0 w : World} {ρ : Nat → Nat} {P : Nat × Nat × Nat} {gens : List Int} {free : List Bool} {D : List ArD} {rt i t : Nat} {d : ArD} {Ls : List Lev} {r : Hd} {size : Nat}
set_option maxRecDepth 100000 in
set_option maxHeartbeats 1000000 in
theorem Tr.need (hB : BW w0 w ρ P gens free D) (h : Tr w ρ P D rt i t d Ls r size) (hll : Ls.length ≤ 1000) (key : Str) {base : Nat} {a : Option Addr} {c : Nat} (hrow : Row base 70 2 hcel w (.slice a Ls.length c) (pathOf Ls key)) :
    Calls Try.prog 54 #[.pointer (some ⟨t, 0, none⟩), .slice a Ls.length c] w fun e w' => e = .returned (.int .i64 (needOf Ls key : Nat)) ∧ Below w.heap.size w w' := by
  obtain ⟨c0, c1, c2, c3, c4, c5, hq⟩ := h.cells
  have hEn := Lib.hid fun (x : Hd × BN) hx => h.entry hB (x := x) hx
  have htw := Lib.hid h.tow
  replace hrow := Lib.hid hrow
  obtain ⟨N, hN⟩ : ∃ N, N = Ls.length := ⟨_, rfl⟩
  rw [← hN] at hrow ⊢
  have hN1 : N ≤ 1000 := by omega
  replace hN := Lib.hid hN
  clear h hB hll
  go_enter Try.func54, Try.ntmps54
  go_wp2_with fail
  go_loopg [10] (N + 1) (fun gk v wr => ∃ (i : Nat), gk = N + 1 - i ∧ i ≤ N ∧ v = .int .i64 i ∧ needOf Ls key = i + needOf (Ls.drop i) key ∧ Below w.heap.size w wr)
  case atStart => exact ⟨0, rfl, Nat.zero_le _, rfl, by simp, Below.refl _ _⟩
  case round =>
    obtain ⟨i, rfl, hiN, rfl, hnd, hB⟩ := hrel
    by_cases hlt : i < N
    · have hil : i < Ls.length := by rw [← hN.out]; exact hlt
      have hR : Ls[i]? = some Ls[i] := List.getElem?_eq_getElem hil
      obtain ⟨x, hx⟩ := htw.out.at hR key
      have hstep := need_step hR hx
      have hpg := pathOf_get hR hx
      rw [← hN.out] at hpg
      obtain ⟨e, he, e1, e2, qka, qva, qha, qkc, qvc, qhc, hnat, hcel0, hG⟩ := hEn.out x (mem_flat hR (atK_mem hx).1)
      obtain ⟨b', cap', ev, _, hb1, hb2, hb3, hb4, hb5, hat⟩ := hrow.out.at hpg
      injection ev with ev hle ev2
      clear hle
      subst ev ev2
      have k0 := keep hB (hat 0 _ rfl)
      have k1 := keep hB (hat 1 _ rfl)
      rw [Nat.add_zero] at k0
      clear hat hb5 hb3
      have c1' := keep hB c1
      obtain ⟨⟨h1, h2⟩, n⟩ := x
      simp only at hcel0 hG k0 k1 hstep hnat
      obtain ⟨x1, x2, x3, x4, x5, x6, x7, x8⟩ := node_cells1 n qka qva qha qkc qvc qhc hcel0
      generalize e.blk = q at *
      clear he e1 e2 hcel0 hnat hx hR x1 x3 x4 x5 x6 x7 x8
      have hbl : b' < wr.heap.size := Nat.lt_of_lt_of_le hb2 hB.size
      have hw1 : IntKind.i64.wrap ((N : Int) - 1) = (N : Int) - 1 := IntWalk.i64_in _ (by omega)
      have hw2 : IntKind.i64.wrap ((N : Int) - 1 - (i : Int)) = ((N - 1 - i : Nat) : Int) := by rw [show ((N : Int) - 1 - (i : Int)) = ((N - 1 - i : Nat) : Int) by omega]; exact IntWalk.i64_in _ (by omega)
      obtain ⟨p, hp⟩ : ∃ p, p = N - 1 - i := ⟨_, rfl⟩
      rw [← hp] at hw2 k0 k1
      have hp1 : p < N := by omega
      have hp2 : (p : Int) < (N : Int) := by omega
      have hqw : q < w.heap.size := block_lt_of_cell x2
      replace hp := Lib.hid hp
      replace hG := Lib.hid hG
      replace hB := Lib.hid hB
      replace hstep := Lib.hid hstep
      replace hnd := Lib.hid hnd
      obtain ⟨kl, hkl⟩ : ∃ kl, kl = n.keys.length := ⟨_, rfl⟩
      rw [← hkl] at x2 hstep
      replace hkl := Lib.hid hkl
      by_cases h4 : kl < 4
      · have h4' : (kl : Int) < 4 := by omega
        go_upto_region 4 with fail
        go_region_with (go_at_call 52; refine (hG.out _ hB.out.drew).mono ?_; rintro z1 w1 ⟨rfl, hb1'⟩; have hbw := hB.out.drew.trans (hb1'.mono hB.out.drew.size); have x2' := keep hbw x2; replace hbw := Lib.hid hbw; clear hb1')
        all_goals
          go_wp2_with fail
          go_ret
          have e5 := hnd.out
          rw [hstep.out, if_pos h4] at e5
          exact ⟨by rw [e5]; rfl, hbw.out⟩
      · have h4' : ¬ (kl : Int) < 4 := by omega
        go_upto_region 4 with fail
        go_region_with (go_at_call 52; refine (hG.out _ hB.out.drew).mono ?_; rintro z1 w1 ⟨rfl, hb1'⟩; have hbw := hB.out.drew.trans (hb1'.mono hB.out.drew.size); have x2' := keep hbw x2; replace hbw := Lib.hid hbw; clear hb1')
        all_goals
          go_wp2_with fail
          go_roundg (N - i)
          case rel =>
            have e5 := hnd.out
            rw [hstep.out, if_neg h4] at e5
            exact ⟨i + 1, by omega, by omega, by go_num, by omega, hbw.out⟩
          case measure => omega
    · obtain rfl : i = N := by omega
      have hw1 : IntKind.i64.wrap ((i : Int) + 1) = (i : Int) + 1 := IntWalk.i64_in _ (by omega)
      have e5 : needOf Ls key = i + 1 := by
        rw [hnd, List.drop_eq_nil_of_le (by have := hN.out; omega)]
        rfl
      replace hnd := Lib.hid hnd
      replace e5 := Lib.hid e5
      go_wp2_with fail
      go_ret
      exact ⟨by rw [e5.out]; simp, hB⟩
end
end Go.Proofs.Ytlhobbfncjjeaaa
