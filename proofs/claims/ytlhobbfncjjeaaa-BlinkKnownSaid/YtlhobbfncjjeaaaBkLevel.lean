/- The contract of a B-link tree's level. -/
import Derived.Test.YtlhobbfncjjeaaaBkAll
namespace Go.Proofs.Ytlhobbfncjjeaaa
open Go.RowKit
/-- What level hands back: the kids, whether they are leaves, that all is right. -/
def LvlEnd (w : World) (L : List Hd) (lf : Bool) (x : Ending) (w' : World) : Prop := ∃ a c, x = .returned (.tuple #[.slice a L.length c, .bool lf, .bool true]) ∧ Row w.heap.size 70 2 hcel w' (.slice a L.length c) L ∧ Below w.heap.size w w'
def kidsOf (R : Lev) : List Hd := R.flatMap fun x => x.2.kids
theorem kidsOf_snoc (A : Lev) (x : Hd × BN) : kidsOf (A ++ [x]) = kidsOf A ++ x.2.kids := by simp [kidsOf]
theorem kidsOf_split (A B : Lev) (x : Hd × BN) : kidsOf (A ++ x :: B) = kidsOf A ++ (x.2.kids ++ kidsOf B) := by simp [kidsOf]
section
variable {w0 w : World} {ρ : Nat → Nat} {P : Nat × Nat × Nat} {gens : List Int} {free : List Bool} {D : List ArD} {rt i t : Nat} {d : ArD} {Ls : List Lev} {r : Hd} {size : Nat}
set_option maxRecDepth 100000 in
set_option maxHeartbeats 4000000 in
theorem Tr.level (hB : BW w0 w ρ P gens free D) (h : Tr w ρ P D rt i t d Ls r size) (hs : Slim Ls) {j : Nat} {R : Lev} (hR : Ls[j]? = some R) {ra : Option Addr} {rc : Nat} (hrow : At w 2 hcel ra rc (R.map (·.1))) (hRl : R.length ≤ 100000) (hKl : (kidsOf R).length ≤ 100000) :
    Calls Try.prog 49 #[.pointer (some ⟨t, 0, none⟩), .slice ra R.length rc] w (LvlEnd w (kidsOf R) (decide (j = 0))) := by
  have hok := h.tow.ok _ _ hR
  obtain ⟨c0, c1, c2, c3, c4, c5, hq⟩ := h.cells
  have hEn := Lib.hid fun (x : Hd × BN) hx => h.entry hB (x := x) (mem_flat hR hx)
  have hk4 := Lib.hid fun (x : Hd × BN) hx => hs j R hR x hx
  have hlfs := Lib.hid fun (x : Hd × BN) hx => hok.lf x hx
  have hseg := Lib.hid hok.seg
  obtain ⟨lf, hlf⟩ : ∃ lf : Bool, lf = decide (j = 0) := ⟨_, rfl⟩
  rw [← hlf] at hlfs ⊢
  clear hlf hok hs h hB hR
  obtain ⟨i0, hi0, hzA, hzB, hzC⟩ := hd_info
  have hne : 0 < R.length → ∃ b o, ra = some ⟨b, o, none⟩ ∧ R.length ≤ rc ∧ rc ≤ 9223372036854775807 ∧ ∀ i x, R[i]? = some x → w.cell? ⟨b, o + i * 2, none⟩ = some (.int .i64 x.1.1) ∧ w.cell? ⟨b, o + i * 2 + 1, none⟩ = some (.int .u64 x.1.2) := fun hn => by
    obtain ⟨b, o, e, h1, h2, h3, h4⟩ := hrow.some (by simpa using hn)
    refine ⟨b, o, e, by simpa using h2, h3, fun i x hx => ?_⟩
    have h5 := h4 i x.1 (by rw [List.getElem?_map, hx]; rfl)
    exact ⟨by simpa using h5 0 _ rfl, h5 1 _ rfl⟩
  replace hne := Lib.hid hne
  clear hrow
  go_enter Try.func49, Try.ntmps49
  go_wp2_with fail
  go_loopg [4, 5, 7, 15] R.length (fun gk v4 v5 v7 v15 wr => ∃ (A B : Lev) (m : Str), gk = B.length ∧ R = A ++ B ∧ (B ≠ [] → Seg m B (0, 0) none) ∧ v7 = .string m ∧ v15 = .int .i64 A.length ∧ v5 = .bool (if A.length = 0 then false else lf) ∧ Row w.heap.size 70 2 hcel wr v4 (kidsOf A) ∧ Below w.heap.size w wr)
  case atStart => exact ⟨[], R, s0, rfl, rfl, fun _ => hseg.out, rfl, rfl, rfl, Row.nil hcel_len hcel_one _ _ _, Below.refl _ _⟩
  case round =>
    obtain ⟨A, B, m, rfl, hAB, hsg, rfl, rfl, rfl, hrow, hB⟩ := hrel
    obtain ⟨va, vc, rfl⟩ := hrow.shape
    cases B with
    | nil =>
      have hA0 : A.length ≠ 0 := fun hh => by
        have h0 : A = [] := List.length_eq_zero_iff.1 hh
        rw [h0] at hAB
        have := hseg.out
        rw [hAB] at this
        simp [Seg] at this
      rw [if_neg hA0]
      have hR : R = A := by simpa using hAB
      subst hR
      replace hrow := Lib.hid hrow
      replace hA0 := Lib.hid hA0
      clear hsg hAB
      go_wp2_with fail
      go_ret3
      exact ⟨va, vc, rfl, hrow.out, hB⟩
    | cons x B =>
      have hxR : x ∈ R := by rw [hAB]; simp
      obtain ⟨e, he, e1, e2, qka, qva, qha, qkc, qvc, qhc, hnat, hcel0, hG⟩ := hEn.out x hxR
      have hkx := hk4.out x hxR
      have hlx := hlfs.out x hxR
      have hsx := hsg (by simp)
      obtain ⟨b, o, rfl, hrc, hrc2, hcl⟩ := hne.out (by rw [hAB]; simp; omega)
      have hAl : A.length < R.length := by rw [hAB]; simp
      obtain ⟨k0, k1⟩ := hcl A.length x (by rw [hAB]; simp)
      have hnxt : Hid (∀ z, B.head? = some z → w.cell? ⟨b, o + (A.length + 1) * 2, none⟩ = some (.int .i64 z.1.1) ∧ w.cell? ⟨b, o + (A.length + 1) * 2 + 1, none⟩ = some (.int .u64 z.1.2)) := Lib.hid fun z hz => hcl (A.length + 1) z (by
        cases B with
        | nil => cases hz
        | cons y B => simp at hz; subst hz; rw [hAB]; simp)
      have hkl : Hid ((kidsOf A).length + x.2.kids.length ≤ 100000) := Lib.hid (by rw [hAB, kidsOf_split] at hKl; simp at hKl; omega)
      clear hcl hsg he e1 e2
      obtain ⟨⟨h1, h2⟩, n⟩ := x
      have hno : NodeOK m n := hsx.1
      have hnn : n.next = first B (0, 0) := hsx.2.1
      have hnb : if n.bnd = true then Seg n.high B (0, 0) none else B = [] ∧ (none : Option Str) = none := hsx.2.2
      clear hsx
      simp only at hnat hcel0 hG hkx hlx k0 k1 hkl
      have hRt := Lib.hid fun W hW => nRight_ok n qka qva qha qkc qvc qhc W hno (hnat.below (w' := W) n qka qva qha qkc qvc qhc hW) (by omega)
      have hFu := Lib.hid fun W => nFull_any n.leaf qka n.keys.length qkc qva n.vals.length qvc qha n.kids.length qhc n.high n.bnd n.next.1 n.next.2 W
      rw [show decide (4 < n.keys.length) = false by simp; omega] at hFu
      obtain ⟨x1, x2, x3, x4, x5, x6, x7, x8⟩ := node_cells1 n qka qva qha qkc qvc qhc hcel0
      have hxs := Lib.hid (And.intro x1 (And.intro x2 (And.intro x3 (And.intro x4 (And.intro x5 (And.intro x6 (And.intro x7 x8)))))))
      have hqw : e.blk < w.heap.size := heap_lt hcel0
      clear x1 x2 x3 x4 x5 x6 x7 x8 hcel0
      generalize e.blk = q at *
      have g0 := keep hB k0
      have g1 := keep hB k1
      have hbw := block_lt_of_cell k0
      have c1' := keep hB c1
      have hA2 : (A.length : Int) < (R.length : Int) := by omega
      have hA3 : (0 : Int) ≤ (A.length : Int) := by omega
      have hbx := heap_alloc_new wr (.cells #[.int .i64 h1, .int .u64 h2] 70)
      have hB2 : Below w.heap.size w (wr.alloc (.cells #[.int .i64 h1, .int .u64 h2] 70)) := hB.alloc hB.size _
      have hrow2 := Lib.hid (hrow.below (w' := wr.alloc (.cells #[.int .i64 h1, .int .u64 h2] 70)) ((Below.refl _ _).alloc (Nat.le_refl _) _))
      have hbxs := hB.size
      replace hbx := Lib.hid hbx
      replace hB2 := Lib.hid hB2
      replace hG := Lib.hid hG
      replace hnb := Lib.hid hnb
      replace hnn := Lib.hid hnn
      replace hAB := Lib.hid hAB
      replace hlx := Lib.hid hlx
      replace hno := Lib.hid hno
      replace hnat := Lib.hid hnat
      replace hRl := Lib.hid hRl
      clear hrow
      obtain ⟨lv, hlv⟩ : ∃ lv : Bool, lv = if A.length = 0 then false else lf := ⟨_, rfl⟩
      rw [← hlv]
      obtain ⟨ia, hia⟩ : ∃ ia, ia = A.length := ⟨_, rfl⟩
      rw [← hia] at hlv hAl g0 g1 k0 k1 hA2 hA3 hnxt ⊢
      replace hlv := Lib.hid hlv
      replace hia := Lib.hid hia
      go_upto_region 5 with fail
      generalize wr.alloc (.cells #[.int .i64 h1, .int .u64 h2] 70) = W0 at *
      have bx0 : W0.cell? ⟨wr.heap.size, 0, none⟩ = some (.int .i64 h1) := by rw [cell_of_heap hbx.out]; rfl
      have bx1 : W0.cell? ⟨wr.heap.size, 1, none⟩ = some (.int .u64 h2) := by rw [cell_of_heap hbx.out]; rfl
      have c1'' := keep hB2.out c1
      have hbxl := heap_lt hbx.out
      clear g0 g1 k0 k1 c1' c0 c2 c3 c4 c5
      go_cut [10, 11] (fun v10 v11 wx => v10 = .pointer (some ⟨q, 1, none⟩) ∧ v11 = .bool true ∧ Below W0.heap.size W0 wx)
      case first =>
        go_region_with (go_at_call 52; refine (hG.out _ hB2.out.drew).mono ?_; rintro z1 w9 ⟨rfl, hb9⟩; have hbw := ((Below.refl W0.heap.size W0).drew).trans hb9; replace hbw := Lib.hid hbw; clear hb9)
        all_goals
          go_wp2_with fail
          go_meet
          exact ⟨rfl, rfl, hbw.out⟩
      case rest =>
        obtain ⟨rfl, rfl, hb3⟩ := hcut
        have hB3 := Lib.hid (hB2.out.trans (hb3.mono hB2.out.size))
        have hrow3 := Lib.hid (hrow2.out.below hb3)
        clear bx0 bx1 c1'' hb3 hG hbxl hrow2 hbx hB2
        obtain ⟨y1, y2, y3, y4, y5, y6, y7, y8⟩ := hxs.out
        have x1 := keep hB3.out y1
        have x2 := keep hB3.out y2
        have x3 := keep hB3.out y3
        have x4 := keep hB3.out y4
        have x5 := keep hB3.out y5
        have x6 := keep hB3.out y6
        have x7 := keep hB3.out y7
        have x8 := keep hB3.out y8
        go_upto_region 6 with fail
        go_cut [55] (fun v wx => v = .bool false ∧ Below wc.heap.size wc wx)
        case first =>
          by_cases hA0 : ia = 0
          · have hA00 : decide ((0 : Int) < (ia : Int)) = false := by rw [decide_eq_false_iff_not]; omega
            have hA01 : decide (0 < ia) = false := by rw [decide_eq_false_iff_not]; omega
            replace hA0 := Lib.hid hA0
            go_wp2_with fail
            refine (hRt.out _ hB3.out).mono ?_
            rintro z w4 ⟨rfl, hb4⟩
            have hB4 := hB3.out.trans (hb4.mono hB3.out.size)
            clear x1 x2 x3 x4 x5 x6 x7 x8
            have x1 := keep hB4 y1
            have x2 := keep hB4 y2
            have x3 := keep hB4 y3
            have x4 := keep hB4 y4
            have x5 := keep hB4 y5
            have x6 := keep hB4 y6
            have x7 := keep hB4 y7
            have x8 := keep hB4 y8
            replace hB4 := Lib.hid hB4
            go_wp2_with fail
            refine (hFu.out _).mono ?_
            rintro z w5 ⟨rfl, hb5⟩
            have hB5 := hB4.out.trans (hb5.mono hB4.out.size)
            have hb45 := Lib.hid (hb4.trans (hb5.mono hb4.size))
            clear x1 x2 x3 x4 x5 x6 x7 x8 hb4 hb5
            have x1 := keep hB5 y1
            replace hB5 := Lib.hid hB5
            clear y1 y2 y3 y4 y5 y6 y7 y8
            go_wp2_with fail
            go_meet
            exact ⟨rfl, hb45.out⟩
          · have hA00 : decide ((0 : Int) < (ia : Int)) = true := by rw [decide_eq_true_iff]; omega
            have hlv2 : lv = n.leaf := by rw [hlv.out, if_neg (by have := hia.out; omega), hlx.out]
            have hA01 : decide (0 < ia) = true := by rw [decide_eq_true_iff]; omega
            replace hlv2 := Lib.hid hlv2
            go_wp2_with fail
            refine (hRt.out _ hB3.out).mono ?_
            rintro z w4 ⟨rfl, hb4⟩
            have hB4 := hB3.out.trans (hb4.mono hB3.out.size)
            clear x1 x2 x3 x4 x5 x6 x7 x8
            have x1 := keep hB4 y1
            have x2 := keep hB4 y2
            have x3 := keep hB4 y3
            have x4 := keep hB4 y4
            have x5 := keep hB4 y5
            have x6 := keep hB4 y6
            have x7 := keep hB4 y7
            have x8 := keep hB4 y8
            replace hB4 := Lib.hid hB4
            go_wp2_with fail
            refine (hFu.out _).mono ?_
            rintro z w5 ⟨rfl, hb5⟩
            have hB5 := hB4.out.trans (hb5.mono hB4.out.size)
            have hb45 := Lib.hid (hb4.trans (hb5.mono hb4.size))
            clear x1 x2 x3 x4 x5 x6 x7 x8 hb4 hb5
            have x1 := keep hB5 y1
            replace hB5 := Lib.hid hB5
            clear y1 y2 y3 y4 y5 y6 y7 y8
            go_wp2_with fail
            go_meet
            exact ⟨by rw [hlv2.out]; simp, hb45.out⟩
        case rest =>
          obtain ⟨rfl, hb6⟩ := hcut
          have hB6 := Lib.hid (hB3.out.trans (hb6.mono hB3.out.size))
          have hrow6 := Lib.hid (hrow3.out.below hb6)
          clear hb6 hB3 hrow3 hRt hFu x1 x2 x3 x4 x5 x6 x7 x8
          have x1 := keep hB6.out y1
          have x6 := keep hB6.out y6
          have x7 := keep hB6.out y7
          have x8 := keep hB6.out y8
          have hRi : Hid ((R.length : Int) = (ia : Int) + 1 + B.length) := Lib.hid (by have := congrArg List.length hAB.out; simp at this; have := hia.out; omega)
          have hw1 : IntKind.i64.wrap ((ia : Int) + 1) = (ia : Int) + 1 := IntWalk.i64_in _ (by have := hRl.out; omega)
          replace hrow6 := hrow6
          obtain ⟨lf2, K, V, H, hi, bd, nx⟩ := n
          simp only at x1 x6 x7 x8 hnb hnn hlx hno hkx hkl hnat hxs ⊢
          cases B with
          | nil =>
            have hbd : bd = false := by
              cases bd
              · rfl
              · have := hnb.out
                rw [if_pos rfl] at this
                cases this
            subst hbd
            have hnx : nx = (0, 0) := hnn.out
            subst hnx
            have hls : (((ia : Int) + 1) == (R.length : Int)) = true := by rw [beq_iff_eq]; have := hRi.out; simp at this; omega
            go_upto_region 10 with fail
            go_cut [97] (fun v97 wx => v97 = .bool false ∧ Below wc.heap.size wc wx)
            case first =>
              go_quiet (fail)
              go_wp2_with fail
              go_meet
              exact ⟨rfl, below_drewN (Below.refl _ _) _⟩
            case rest =>
              obtain ⟨rfl, hb7⟩ := hcut
              have hB7 := Lib.hid (hB6.out.trans (hb7.mono hB6.out.size))
              have hrow7 := Lib.hid (hrow6.out.below hb7)
              clear hb7 x1 x6 x7 x8 hls
              have hlow : Hid (∀ k, K[0]? = some k → decide (scmp k m < 0) = false) := Lib.hid fun k hk => sle_iff.1 (hno.out.low k (List.mem_of_getElem? hk))
              obtain ⟨y1, y2, y3, y4, y5, y6, y7, y8⟩ := hxs.out
              have x2 := keep hB7.out y2
              have x4 := keep hB7.out y4
              have x5 := keep hB7.out y5
              have x6 := keep hB7.out y6
              clear y1 y2 y3 y4 y5 y6 y7 y8
              go_upto_region 12 with fail
              go_cut [129] (fun v wx => v = .bool false ∧ Below wc.heap.size wc wx)
              case first =>
                cases K with
                | nil =>
                  simp only [List.length_nil] at x2
                  go_wp2_with (go_at_call 68; refine (compare_any _ _ _).mono ?_; rintro z w8 ⟨rfl, rfl⟩)
                  go_meet
                  exact ⟨rfl, Below.refl _ _⟩
                | cons k K =>
                  obtain ⟨kb, ko, rfl, _, hkc, hkc63, hkat⟩ := hnat.out.1.str (by simp)
                  have gk := keep hB7.out (hkat 0 k rfl)
                  rw [Nat.add_zero] at gk
                  have hk0 := hlow.out k rfl
                  have hKl : (0 : Int) < ((k :: K).length : Int) := by simp
                  have hKl2 : 0 < (k :: K).length := by simp
                  clear hkat
                  obtain ⟨nK, hnK⟩ : ∃ nK, nK = (k :: K).length := ⟨_, rfl⟩
                  skip
                  rw [← hnK] at x2 hKl hKl2 hkc
                  clear hnK
                  go_wp2_with (go_at_call 68; refine (compare_any _ _ _).mono ?_; rintro z w8 ⟨rfl, rfl⟩)
                  go_meet
                  exact ⟨rfl, Below.refl _ _⟩
              case rest =>
                obtain ⟨rfl, hb8⟩ := hcut
                have hB8 := Lib.hid (hB7.out.trans (hb8.mono hB7.out.size))
                have hrow8 := Lib.hid (hrow7.out.below hb8)
                have x4' := keep hb8 x4
                have x5' := keep hb8 x5
                clear x2 x4 x5 x6 hb8 hrow7 hB7
                have hsr := Lib.hid ((hnat.out.2.2.below hB8.out).src hcel_len hcel_one (by decide))
                have hlm : Hid ((kidsOf A).length + H.length ≤ maxLen) := Lib.hid (by unfold maxLen; have := hkl.out; omega)
                have hly : Hid (((kidsOf A).length + H.length) * 16 ≤ 140737488355328) := Lib.hid (by have := hkl.out; omega)
                obtain ⟨LL, hLL⟩ : ∃ LL, LL = kidsOf A := ⟨_, rfl⟩
                rw [← hLL] at hrow8 hlm hly ⊢
                have hLL2 : Hid (LL ++ H = kidsOf (A ++ [((h1, h2), (⟨lf2, K, V, H, hi, false, (0, 0)⟩ : BN))])) := Lib.hid (by rw [kidsOf_snoc, hLL])
                clear hLL
                have hbb := Lib.hid hB8.out.size
                go_wp2_with (at_builtin; refine wpList_append_row (f := hcel) (M := H) _ rfl _ _ 76 rfl w.heap.size 70 i0 (.agg #[.int .i64 0, .int .u64 0]) 2 16 Try.underlying76 hi0 hzA hzB hzC rfl (by decide) (.slice va LL.length vc) LL rfl hrow8.out _ rfl hsr.out hlm.out hly.out hbb.out ?_; intro a' c' w9 hrow9 hu9 hat9; replace hrow9 := Lib.hid hrow9; replace hu9 := Lib.hid hu9; replace hat9 := Lib.hid hat9)
                go_roundg 0
                case rel =>
                  refine ⟨A ++ [((h1, h2), (⟨lf2, K, V, H, hi, false, (0, 0)⟩ : BN))], [], hi, rfl, by rw [hAB.out]; simp, ?_, rfl, ?_, ?_, ?_, hB8.out.trans (hu9.out.below hB8.out.size (fun b hb => ?_))⟩
                  · exact fun hh => absurd rfl hh
                  · rw [List.length_append, ← hia.out]; go_num
                  · rw [if_neg (by simp), ← hlx.out]
                  · rw [← hLL2.out]; first | exact hrow9.out | simpa using hrow9.out
                  · exact (hrow8.out.lt b (by simpa using hb)).1
                case measure => simp
          | cons z B =>
            have hbd : bd = true := by
              cases bd
              · have := hnb.out
                rw [if_neg (by simp)] at this
                simp at this
              · rfl
            subst hbd
            have hnx : nx = z.1 := hnn.out
            subst hnx
            obtain ⟨hz, nz⟩ := z
            simp only at x7 x8
            obtain ⟨l0, l1⟩ := hnxt.out _ rfl
            have g0 := keep hB6.out l0
            have g1 := keep hB6.out l1
            have hls : (((ia : Int) + 1) == (R.length : Int)) = false := by rw [beq_eq_false_iff_ne]; have := hRi.out; simp at this; omega
            have hi1 : (ia : Int) + 1 < (R.length : Int) := by have := hRi.out; simp at this; omega
            have hi2 : ia + 1 < R.length := by omega
            have hi3 : (0 : Int) ≤ (ia : Int) + 1 := by omega
            have hi4 : ((ia : Int) + 1).toNat = ia + 1 := by omega
            go_upto_region 10 with fail
            go_cut [97] (fun v97 wx => v97 = .bool false ∧ Below wc.heap.size wc wx)
            case first =>
              go_quiet (fail)
              go_wp2_with fail
              go_meet
              exact ⟨rfl, below_drewN (Below.refl _ _) _⟩
            case rest =>
              obtain ⟨rfl, hb7⟩ := hcut
              have hB7 := Lib.hid (hB6.out.trans (hb7.mono hB6.out.size))
              have hrow7 := Lib.hid (hrow6.out.below hb7)
              clear hb7 x1 x6 x7 x8 hls g0 g1 l0 l1 hi1 hi2 hi3 hi4
              have hlow : Hid (∀ k, K[0]? = some k → decide (scmp k m < 0) = false) := Lib.hid fun k hk => sle_iff.1 (hno.out.low k (List.mem_of_getElem? hk))
              have hroom : slt m hi = true := hno.out.room rfl
              have hhl : decide (scmp hi m ≤ 0) = false := by have h1 := scmp_swap m hi; unfold slt at hroom; simp at hroom ⊢; omega
              clear hroom
              obtain ⟨y1, y2, y3, y4, y5, y6, y7, y8⟩ := hxs.out
              have x2 := keep hB7.out y2
              have x4 := keep hB7.out y4
              have x5 := keep hB7.out y5
              have x6 := keep hB7.out y6
              clear y1 y2 y3 y4 y5 y6 y7 y8
              go_upto_region 12 with fail
              go_cut [129] (fun v wx => v = .bool false ∧ Below wc.heap.size wc wx)
              case first =>
                cases K with
                | nil =>
                  simp only [List.length_nil] at x2
                  go_wp2_with (go_at_call 68; refine (compare_any _ _ _).mono ?_; rintro z w8 ⟨rfl, rfl⟩)
                  go_meet
                  exact ⟨rfl, Below.refl _ _⟩
                | cons k K =>
                  obtain ⟨kb, ko, rfl, _, hkc, hkc63, hkat⟩ := hnat.out.1.str (by simp)
                  have gk := keep hB7.out (hkat 0 k rfl)
                  rw [Nat.add_zero] at gk
                  have hk0 := hlow.out k rfl
                  have hKl : (0 : Int) < ((k :: K).length : Int) := by simp
                  have hKl2 : 0 < (k :: K).length := by simp
                  clear hkat
                  obtain ⟨nK, hnK⟩ : ∃ nK, nK = (k :: K).length := ⟨_, rfl⟩
                  skip
                  rw [← hnK] at x2 hKl hKl2 hkc
                  clear hnK
                  go_wp2_with (go_at_call 68; refine (compare_any _ _ _).mono ?_; rintro z w8 ⟨rfl, rfl⟩)
                  go_meet
                  exact ⟨rfl, Below.refl _ _⟩
              case rest =>
                obtain ⟨rfl, hb8⟩ := hcut
                have hB8 := Lib.hid (hB7.out.trans (hb8.mono hB7.out.size))
                have hrow8 := Lib.hid (hrow7.out.below hb8)
                have x4' := keep hb8 x4
                have x5' := keep hb8 x5
                clear x2 x4 x5 x6 hb8 hrow7 hB7 hhl
                have hsr := Lib.hid ((hnat.out.2.2.below hB8.out).src hcel_len hcel_one (by decide))
                have hlm : Hid ((kidsOf A).length + H.length ≤ maxLen) := Lib.hid (by unfold maxLen; have := hkl.out; omega)
                have hly : Hid (((kidsOf A).length + H.length) * 16 ≤ 140737488355328) := Lib.hid (by have := hkl.out; omega)
                obtain ⟨LL, hLL⟩ : ∃ LL, LL = kidsOf A := ⟨_, rfl⟩
                rw [← hLL] at hrow8 hlm hly ⊢
                have hLL2 : Hid (LL ++ H = kidsOf (A ++ [((h1, h2), (⟨lf2, K, V, H, hi, true, hz⟩ : BN))])) := Lib.hid (by rw [kidsOf_snoc, hLL])
                clear hLL
                have hbb := Lib.hid hB8.out.size
                go_wp2_with (at_builtin; refine wpList_append_row (f := hcel) (M := H) _ rfl _ _ 76 rfl w.heap.size 70 i0 (.agg #[.int .i64 0, .int .u64 0]) 2 16 Try.underlying76 hi0 hzA hzB hzC rfl (by decide) (.slice va LL.length vc) LL rfl hrow8.out _ rfl hsr.out hlm.out hly.out hbb.out ?_; intro a' c' w9 hrow9 hu9 hat9; replace hrow9 := Lib.hid hrow9; replace hu9 := Lib.hid hu9; replace hat9 := Lib.hid hat9)
                go_roundg (B.length + 1)
                case rel =>
                  refine ⟨A ++ [((h1, h2), (⟨lf2, K, V, H, hi, true, hz⟩ : BN))], (hz, nz) :: B, hi, rfl, by rw [hAB.out]; simp, ?_, rfl, ?_, ?_, ?_, hB8.out.trans (hu9.out.below hB8.out.size (fun b hb => ?_))⟩
                  · intro _
                    have := hnb.out
                    rw [if_pos (by trivial)] at this
                    exact this
                  · rw [List.length_append, ← hia.out]; go_num
                  · rw [if_neg (by simp), ← hlx.out]
                  · rw [← hLL2.out]; first | exact hrow9.out | simpa using hrow9.out
                  · exact (hrow8.out.lt b (by simpa using hb)).1
                case measure => simp
end
end Go.Proofs.Ytlhobbfncjjeaaa
