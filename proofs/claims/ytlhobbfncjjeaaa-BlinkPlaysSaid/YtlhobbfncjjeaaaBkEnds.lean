/- The contract of a B-link tree's level. The contract of a B-link tree's ends. -/
import Derived.Test.YtlhobbfncjjeaaaBkAll
namespace Go.Proofs.Ytlhobbfncjjeaaa
open Go.RowKit
/-- What level hands back: the kids, whether they are leaves, that all is right. -/
def LvlEnd (w : World) (L : List Hd) (lf : Bool) (x : Ending) (w' : World) : Prop := ∃ a c, x = .returned (.tuple #[.slice a L.length c, .bool lf, .bool true]) ∧ Row w.heap.size 70 2 hcel w' (.slice a L.length c) L ∧ Below w.heap.size w w'
def kidsOf (R : Lev) : List Hd := R.flatMap fun x => x.2.kids
theorem kidsOf_snoc (A : Lev) (x : Hd × BN) : kidsOf (A ++ [x]) = kidsOf A ++ x.2.kids := by simp [kidsOf]
theorem kidsOf_split (A B : Lev) (x : Hd × BN) : kidsOf (A ++ x :: B) = kidsOf A ++ (x.2.kids ++ kidsOf B) := by simp [kidsOf]
section
variable {w0 w : World} {ρ : Nat → Nat} {P : Nat × Nat × Nat} {gens : List Int} {free : List Bool} {D : List ArD} {rt i t : Nat} {d : ArD} {Ls : List Lev} {r : Hd} {size : Nat}
set_option maxRecDepth 100000 in
set_option maxHeartbeats 4000000 in
theorem Tr.level (hB : BW w0 w ρ P gens free D) (h : Tr w ρ P D rt i t d Ls r size) (hs : Slim Ls) {j : Nat} {R : Lev} (hR : Ls[j]? = some R) {ra : Option Addr} {rc : Nat} (hrow : At w 2 hcel ra rc (R.map (·.1))) (hRl : R.length ≤ 100000) (hKl : (kidsOf R).length ≤ 100000) :
    Calls Try.prog 49 #[.pointer (some ⟨t, 0, none⟩), .slice ra R.length rc] w (LvlEnd w (kidsOf R) (decide (j = 0))) := by
  have hok := h.tow.ok _ _ hR
  obtain ⟨c0, c1, c2, c3, c4, c5, hq⟩ := h.cells
  have hEn := Lib.hid fun (x : Hd × BN) hx => h.entry hB (x := x) (mem_flat hR hx)
  have hk4 := Lib.hid fun (x : Hd × BN) hx => hs j R hR x hx
  have hlfs := Lib.hid fun (x : Hd × BN) hx => hok.lf x hx
  have hseg := Lib.hid hok.seg
  obtain ⟨lf, hlf⟩ : ∃ lf : Bool, lf = decide (j = 0) := ⟨_, rfl⟩
  rw [← hlf] at hlfs ⊢
  clear hlf hok hs h hB hR
  obtain ⟨i0, hi0, hzA, hzB, hzC⟩ := hd_info
  have hne : 0 < R.length → ∃ b o, ra = some ⟨b, o, none⟩ ∧ R.length ≤ rc ∧ rc ≤ 9223372036854775807 ∧ ∀ i x, R[i]? = some x → w.cell? ⟨b, o + i * 2, none⟩ = some (.int .i64 x.1.1) ∧ w.cell? ⟨b, o + i * 2 + 1, none⟩ = some (.int .u64 x.1.2) := fun hn => by
    obtain ⟨b, o, e, h1, h2, h3, h4⟩ := hrow.some (by simpa using hn)
    refine ⟨b, o, e, by simpa using h2, h3, fun i x hx => ?_⟩
    have h5 := h4 i x.1 (by rw [List.getElem?_map, hx]; rfl)
    exact ⟨by simpa using h5 0 _ rfl, h5 1 _ rfl⟩
  replace hne := Lib.hid hne
  clear hrow
  go_enter Try.func49, Try.ntmps49
  go_wp2_with fail
  go_loopg [4, 5, 7, 15] R.length (fun gk v4 v5 v7 v15 wr => ∃ (A B : Lev) (m : Str), gk = B.length ∧ R = A ++ B ∧ (B ≠ [] → Seg m B (0, 0) none) ∧ v7 = .string m ∧ v15 = .int .i64 A.length ∧ v5 = .bool (if A.length = 0 then false else lf) ∧ Row w.heap.size 70 2 hcel wr v4 (kidsOf A) ∧ Below w.heap.size w wr)
  case atStart => exact ⟨[], R, s0, rfl, rfl, fun _ => hseg.out, rfl, rfl, rfl, Row.nil hcel_len hcel_one _ _ _, Below.refl _ _⟩
  case round =>
    obtain ⟨A, B, m, rfl, hAB, hsg, rfl, rfl, rfl, hrow, hB⟩ := hrel
    obtain ⟨va, vc, rfl⟩ := hrow.shape
    cases B with
    | nil =>
      have hA0 : A.length ≠ 0 := fun hh => by
        have h0 : A = [] := List.length_eq_zero_iff.1 hh
        rw [h0] at hAB
        have := hseg.out
        rw [hAB] at this
        simp [Seg] at this
      rw [if_neg hA0]
      have hR : R = A := by simpa using hAB
      subst hR
      replace hrow := Lib.hid hrow
      replace hA0 := Lib.hid hA0
      clear hsg hAB
      go_wp2_with fail
      go_ret3
      exact ⟨va, vc, rfl, hrow.out, hB⟩
    | cons x B =>
      have hxR : x ∈ R := by rw [hAB]; simp
      obtain ⟨e, he, e1, e2, qka, qva, qha, qkc, qvc, qhc, hnat, hcel0, hG⟩ := hEn.out x hxR
      have hkx := hk4.out x hxR
      have hlx := hlfs.out x hxR
      have hsx := hsg (by simp)
      obtain ⟨b, o, rfl, hrc, hrc2, hcl⟩ := hne.out (by rw [hAB]; simp; omega)
      have hAl : A.length < R.length := by rw [hAB]; simp
      obtain ⟨k0, k1⟩ := hcl A.length x (by rw [hAB]; simp)
      have hnxt : Hid (∀ z, B.head? = some z → w.cell? ⟨b, o + (A.length + 1) * 2, none⟩ = some (.int .i64 z.1.1) ∧ w.cell? ⟨b, o + (A.length + 1) * 2 + 1, none⟩ = some (.int .u64 z.1.2)) := Lib.hid fun z hz => hcl (A.length + 1) z (by
        cases B with
        | nil => cases hz
        | cons y B => simp at hz; subst hz; rw [hAB]; simp)
      have hkl : Hid ((kidsOf A).length + x.2.kids.length ≤ 100000) := Lib.hid (by rw [hAB, kidsOf_split] at hKl; simp at hKl; omega)
      clear hcl hsg he e1 e2
      obtain ⟨⟨h1, h2⟩, n⟩ := x
      have hno : NodeOK m n := hsx.1
      have hnn : n.next = first B (0, 0) := hsx.2.1
      have hnb : if n.bnd = true then Seg n.high B (0, 0) none else B = [] ∧ (none : Option Str) = none := hsx.2.2
      clear hsx
      simp only at hnat hcel0 hG hkx hlx k0 k1 hkl
      have hRt := Lib.hid fun W hW => nRight_ok n qka qva qha qkc qvc qhc W hno (hnat.below (w' := W) n qka qva qha qkc qvc qhc hW) (by omega)
      have hFu := Lib.hid fun W => nFull_any n.leaf qka n.keys.length qkc qva n.vals.length qvc qha n.kids.length qhc n.high n.bnd n.next.1 n.next.2 W
      rw [show decide (4 < n.keys.length) = false by simp; omega] at hFu
      obtain ⟨x1, x2, x3, x4, x5, x6, x7, x8⟩ := node_cells1 n qka qva qha qkc qvc qhc hcel0
      have hxs := Lib.hid (And.intro x1 (And.intro x2 (And.intro x3 (And.intro x4 (And.intro x5 (And.intro x6 (And.intro x7 x8)))))))
      have hqw : e.blk < w.heap.size := heap_lt hcel0
      clear x1 x2 x3 x4 x5 x6 x7 x8 hcel0
      generalize e.blk = q at *
      have g0 := keep hB k0
      have g1 := keep hB k1
      have hbw := block_lt_of_cell k0
      have c1' := keep hB c1
      have hA2 : (A.length : Int) < (R.length : Int) := by omega
      have hA3 : (0 : Int) ≤ (A.length : Int) := by omega
      have hbx := heap_alloc_new wr (.cells #[.int .i64 h1, .int .u64 h2] 70)
      have hB2 : Below w.heap.size w (wr.alloc (.cells #[.int .i64 h1, .int .u64 h2] 70)) := hB.alloc hB.size _
      have hrow2 := Lib.hid (hrow.below (w' := wr.alloc (.cells #[.int .i64 h1, .int .u64 h2] 70)) ((Below.refl _ _).alloc (Nat.le_refl _) _))
      have hbxs := hB.size
      replace hbx := Lib.hid hbx
      replace hB2 := Lib.hid hB2
      replace hG := Lib.hid hG
      replace hnb := Lib.hid hnb
      replace hnn := Lib.hid hnn
      replace hAB := Lib.hid hAB
      replace hlx := Lib.hid hlx
      replace hno := Lib.hid hno
      replace hnat := Lib.hid hnat
      replace hRl := Lib.hid hRl
      clear hrow
      obtain ⟨lv, hlv⟩ : ∃ lv : Bool, lv = if A.length = 0 then false else lf := ⟨_, rfl⟩
      rw [← hlv]
      obtain ⟨ia, hia⟩ : ∃ ia, ia = A.length := ⟨_, rfl⟩
      rw [← hia] at hlv hAl g0 g1 k0 k1 hA2 hA3 hnxt ⊢
      replace hlv := Lib.hid hlv
      replace hia := Lib.hid hia
      go_upto_region 5 with fail
      generalize wr.alloc (.cells #[.int .i64 h1, .int .u64 h2] 70) = W0 at *
      have bx0 : W0.cell? ⟨wr.heap.size, 0, none⟩ = some (.int .i64 h1) := by rw [cell_of_heap hbx.out]; rfl
      have bx1 : W0.cell? ⟨wr.heap.size, 1, none⟩ = some (.int .u64 h2) := by rw [cell_of_heap hbx.out]; rfl
      have c1'' := keep hB2.out c1
      have hbxl := heap_lt hbx.out
      clear g0 g1 k0 k1 c1' c0 c2 c3 c4 c5
      go_cut [10, 11] (fun v10 v11 wx => v10 = .pointer (some ⟨q, 1, none⟩) ∧ v11 = .bool true ∧ Below W0.heap.size W0 wx)
      case first =>
        go_region_with (go_at_call 52; refine (hG.out _ hB2.out.drew).mono ?_; rintro z1 w9 ⟨rfl, hb9⟩; have hbw := ((Below.refl W0.heap.size W0).drew).trans hb9; replace hbw := Lib.hid hbw; clear hb9)
        all_goals
          go_wp2_with fail
          go_meet
          exact ⟨rfl, rfl, hbw.out⟩
      case rest =>
        obtain ⟨rfl, rfl, hb3⟩ := hcut
        have hB3 := Lib.hid (hB2.out.trans (hb3.mono hB2.out.size))
        have hrow3 := Lib.hid (hrow2.out.below hb3)
        clear bx0 bx1 c1'' hb3 hG hbxl hrow2 hbx hB2
        obtain ⟨y1, y2, y3, y4, y5, y6, y7, y8⟩ := hxs.out
        have x1 := keep hB3.out y1
        have x2 := keep hB3.out y2
        have x3 := keep hB3.out y3
        have x4 := keep hB3.out y4
        have x5 := keep hB3.out y5
        have x6 := keep hB3.out y6
        have x7 := keep hB3.out y7
        have x8 := keep hB3.out y8
        go_upto_region 6 with fail
        go_cut [55] (fun v wx => v = .bool false ∧ Below wc.heap.size wc wx)
        case first =>
          by_cases hA0 : ia = 0
          · have hA00 : decide ((0 : Int) < (ia : Int)) = false := by rw [decide_eq_false_iff_not]; omega
            have hA01 : decide (0 < ia) = false := by rw [decide_eq_false_iff_not]; omega
            replace hA0 := Lib.hid hA0
            go_wp2_with fail
            refine (hRt.out _ hB3.out).mono ?_
            rintro z w4 ⟨rfl, hb4⟩
            have hB4 := hB3.out.trans (hb4.mono hB3.out.size)
            clear x1 x2 x3 x4 x5 x6 x7 x8
            have x1 := keep hB4 y1
            have x2 := keep hB4 y2
            have x3 := keep hB4 y3
            have x4 := keep hB4 y4
            have x5 := keep hB4 y5
            have x6 := keep hB4 y6
            have x7 := keep hB4 y7
            have x8 := keep hB4 y8
            replace hB4 := Lib.hid hB4
            go_wp2_with fail
            refine (hFu.out _).mono ?_
            rintro z w5 ⟨rfl, hb5⟩
            have hB5 := hB4.out.trans (hb5.mono hB4.out.size)
            have hb45 := Lib.hid (hb4.trans (hb5.mono hb4.size))
            clear x1 x2 x3 x4 x5 x6 x7 x8 hb4 hb5
            have x1 := keep hB5 y1
            replace hB5 := Lib.hid hB5
            clear y1 y2 y3 y4 y5 y6 y7 y8
            go_wp2_with fail
            go_meet
            exact ⟨rfl, hb45.out⟩
          · have hA00 : decide ((0 : Int) < (ia : Int)) = true := by rw [decide_eq_true_iff]; omega
            have hlv2 : lv = n.leaf := by rw [hlv.out, if_neg (by have := hia.out; omega), hlx.out]
            have hA01 : decide (0 < ia) = true := by rw [decide_eq_true_iff]; omega
            replace hlv2 := Lib.hid hlv2
            go_wp2_with fail
            refine (hRt.out _ hB3.out).mono ?_
            rintro z w4 ⟨rfl, hb4⟩
            have hB4 := hB3.out.trans (hb4.mono hB3.out.size)
            clear x1 x2 x3 x4 x5 x6 x7 x8
            have x1 := keep hB4 y1
            have x2 := keep hB4 y2
            have x3 := keep hB4 y3
            have x4 := keep hB4 y4
            have x5 := keep hB4 y5
            have x6 := keep hB4 y6
            have x7 := keep hB4 y7
            have x8 := keep hB4 y8
            replace hB4 := Lib.hid hB4
            go_wp2_with fail
            refine (hFu.out _).mono ?_
            rintro z w5 ⟨rfl, hb5⟩
            have hB5 := hB4.out.trans (hb5.mono hB4.out.size)
            have hb45 := Lib.hid (hb4.trans (hb5.mono hb4.size))
            clear x1 x2 x3 x4 x5 x6 x7 x8 hb4 hb5
            have x1 := keep hB5 y1
            replace hB5 := Lib.hid hB5
            clear y1 y2 y3 y4 y5 y6 y7 y8
            go_wp2_with fail
            go_meet
            exact ⟨by rw [hlv2.out]; simp, hb45.out⟩
        case rest =>
          obtain ⟨rfl, hb6⟩ := hcut
          have hB6 := Lib.hid (hB3.out.trans (hb6.mono hB3.out.size))
          have hrow6 := Lib.hid (hrow3.out.below hb6)
          clear hb6 hB3 hrow3 hRt hFu x1 x2 x3 x4 x5 x6 x7 x8
          have x1 := keep hB6.out y1
          have x6 := keep hB6.out y6
          have x7 := keep hB6.out y7
          have x8 := keep hB6.out y8
          have hRi : Hid ((R.length : Int) = (ia : Int) + 1 + B.length) := Lib.hid (by have := congrArg List.length hAB.out; simp at this; have := hia.out; omega)
          have hw1 : IntKind.i64.wrap ((ia : Int) + 1) = (ia : Int) + 1 := IntWalk.i64_in _ (by have := hRl.out; omega)
          replace hrow6 := hrow6
          obtain ⟨lf2, K, V, H, hi, bd, nx⟩ := n
          simp only at x1 x6 x7 x8 hnb hnn hlx hno hkx hkl hnat hxs ⊢
          cases B with
          | nil =>
            have hbd : bd = false := by
              cases bd
              · rfl
              · have := hnb.out
                rw [if_pos rfl] at this
                cases this
            subst hbd
            have hnx : nx = (0, 0) := hnn.out
            subst hnx
            have hls : (((ia : Int) + 1) == (R.length : Int)) = true := by rw [beq_iff_eq]; have := hRi.out; simp at this; omega
            go_upto_region 10 with fail
            go_cut [97] (fun v97 wx => v97 = .bool false ∧ Below wc.heap.size wc wx)
            case first =>
              go_quiet (fail)
              go_wp2_with fail
              go_meet
              exact ⟨rfl, below_drewN (Below.refl _ _) _⟩
            case rest =>
              obtain ⟨rfl, hb7⟩ := hcut
              have hB7 := Lib.hid (hB6.out.trans (hb7.mono hB6.out.size))
              have hrow7 := Lib.hid (hrow6.out.below hb7)
              clear hb7 x1 x6 x7 x8 hls
              have hlow : Hid (∀ k, K[0]? = some k → decide (scmp k m < 0) = false) := Lib.hid fun k hk => sle_iff.1 (hno.out.low k (List.mem_of_getElem? hk))
              obtain ⟨y1, y2, y3, y4, y5, y6, y7, y8⟩ := hxs.out
              have x2 := keep hB7.out y2
              have x4 := keep hB7.out y4
              have x5 := keep hB7.out y5
              have x6 := keep hB7.out y6
              clear y1 y2 y3 y4 y5 y6 y7 y8
              go_upto_region 12 with fail
              go_cut [129] (fun v wx => v = .bool false ∧ Below wc.heap.size wc wx)
              case first =>
                cases K with
                | nil =>
                  simp only [List.length_nil] at x2
                  go_wp2_with (go_at_call 68; refine (compare_any _ _ _).mono ?_; rintro z w8 ⟨rfl, rfl⟩)
                  go_meet
                  exact ⟨rfl, Below.refl _ _⟩
                | cons k K =>
                  obtain ⟨kb, ko, rfl, _, hkc, hkc63, hkat⟩ := hnat.out.1.str (by simp)
                  have gk := keep hB7.out (hkat 0 k rfl)
                  rw [Nat.add_zero] at gk
                  have hk0 := hlow.out k rfl
                  have hKl : (0 : Int) < ((k :: K).length : Int) := by simp
                  have hKl2 : 0 < (k :: K).length := by simp
                  clear hkat
                  obtain ⟨nK, hnK⟩ : ∃ nK, nK = (k :: K).length := ⟨_, rfl⟩
                  skip
                  rw [← hnK] at x2 hKl hKl2 hkc
                  clear hnK
                  go_wp2_with (go_at_call 68; refine (compare_any _ _ _).mono ?_; rintro z w8 ⟨rfl, rfl⟩)
                  go_meet
                  exact ⟨rfl, Below.refl _ _⟩
              case rest =>
                obtain ⟨rfl, hb8⟩ := hcut
                have hB8 := Lib.hid (hB7.out.trans (hb8.mono hB7.out.size))
                have hrow8 := Lib.hid (hrow7.out.below hb8)
                have x4' := keep hb8 x4
                have x5' := keep hb8 x5
                clear x2 x4 x5 x6 hb8 hrow7 hB7
                have hsr := Lib.hid ((hnat.out.2.2.below hB8.out).src hcel_len hcel_one (by decide))
                have hlm : Hid ((kidsOf A).length + H.length ≤ maxLen) := Lib.hid (by unfold maxLen; have := hkl.out; omega)
                have hly : Hid (((kidsOf A).length + H.length) * 16 ≤ 140737488355328) := Lib.hid (by have := hkl.out; omega)
                obtain ⟨LL, hLL⟩ : ∃ LL, LL = kidsOf A := ⟨_, rfl⟩
                rw [← hLL] at hrow8 hlm hly ⊢
                have hLL2 : Hid (LL ++ H = kidsOf (A ++ [((h1, h2), (⟨lf2, K, V, H, hi, false, (0, 0)⟩ : BN))])) := Lib.hid (by rw [kidsOf_snoc, hLL])
                clear hLL
                have hbb := Lib.hid hB8.out.size
                go_wp2_with (at_builtin; refine wpList_append_row (f := hcel) (M := H) _ rfl _ _ 76 rfl w.heap.size 70 i0 (.agg #[.int .i64 0, .int .u64 0]) 2 16 Try.underlying76 hi0 hzA hzB hzC rfl (by decide) (.slice va LL.length vc) LL rfl hrow8.out _ rfl hsr.out hlm.out hly.out hbb.out ?_; intro a' c' w9 hrow9 hu9 hat9; replace hrow9 := Lib.hid hrow9; replace hu9 := Lib.hid hu9; replace hat9 := Lib.hid hat9)
                go_roundg 0
                case rel =>
                  refine ⟨A ++ [((h1, h2), (⟨lf2, K, V, H, hi, false, (0, 0)⟩ : BN))], [], hi, rfl, by rw [hAB.out]; simp, ?_, rfl, ?_, ?_, ?_, hB8.out.trans (hu9.out.below hB8.out.size (fun b hb => ?_))⟩
                  · exact fun hh => absurd rfl hh
                  · rw [List.length_append, ← hia.out]; go_num
                  · rw [if_neg (by simp), ← hlx.out]
                  · rw [← hLL2.out]; first | exact hrow9.out | simpa using hrow9.out
                  · exact (hrow8.out.lt b (by simpa using hb)).1
                case measure => simp
          | cons z B =>
            have hbd : bd = true := by
              cases bd
              · have := hnb.out
                rw [if_neg (by simp)] at this
                simp at this
              · rfl
            subst hbd
            have hnx : nx = z.1 := hnn.out
            subst hnx
            obtain ⟨hz, nz⟩ := z
            simp only at x7 x8
            obtain ⟨l0, l1⟩ := hnxt.out _ rfl
            have g0 := keep hB6.out l0
            have g1 := keep hB6.out l1
            have hls : (((ia : Int) + 1) == (R.length : Int)) = false := by rw [beq_eq_false_iff_ne]; have := hRi.out; simp at this; omega
            have hi1 : (ia : Int) + 1 < (R.length : Int) := by have := hRi.out; simp at this; omega
            have hi2 : ia + 1 < R.length := by omega
            have hi3 : (0 : Int) ≤ (ia : Int) + 1 := by omega
            have hi4 : ((ia : Int) + 1).toNat = ia + 1 := by omega
            go_upto_region 10 with fail
            go_cut [97] (fun v97 wx => v97 = .bool false ∧ Below wc.heap.size wc wx)
            case first =>
              go_quiet (fail)
              go_wp2_with fail
              go_meet
              exact ⟨rfl, below_drewN (Below.refl _ _) _⟩
            case rest =>
              obtain ⟨rfl, hb7⟩ := hcut
              have hB7 := Lib.hid (hB6.out.trans (hb7.mono hB6.out.size))
              have hrow7 := Lib.hid (hrow6.out.below hb7)
              clear hb7 x1 x6 x7 x8 hls g0 g1 l0 l1 hi1 hi2 hi3 hi4
              have hlow : Hid (∀ k, K[0]? = some k → decide (scmp k m < 0) = false) := Lib.hid fun k hk => sle_iff.1 (hno.out.low k (List.mem_of_getElem? hk))
              have hroom : slt m hi = true := hno.out.room rfl
              have hhl : decide (scmp hi m ≤ 0) = false := by have h1 := scmp_swap m hi; unfold slt at hroom; simp at hroom ⊢; omega
              clear hroom
              obtain ⟨y1, y2, y3, y4, y5, y6, y7, y8⟩ := hxs.out
              have x2 := keep hB7.out y2
              have x4 := keep hB7.out y4
              have x5 := keep hB7.out y5
              have x6 := keep hB7.out y6
              clear y1 y2 y3 y4 y5 y6 y7 y8
              go_upto_region 12 with fail
              go_cut [129] (fun v wx => v = .bool false ∧ Below wc.heap.size wc wx)
              case first =>
                cases K with
                | nil =>
                  simp only [List.length_nil] at x2
                  go_wp2_with (go_at_call 68; refine (compare_any _ _ _).mono ?_; rintro z w8 ⟨rfl, rfl⟩)
                  go_meet
                  exact ⟨rfl, Below.refl _ _⟩
                | cons k K =>
                  obtain ⟨kb, ko, rfl, _, hkc, hkc63, hkat⟩ := hnat.out.1.str (by simp)
                  have gk := keep hB7.out (hkat 0 k rfl)
                  rw [Nat.add_zero] at gk
                  have hk0 := hlow.out k rfl
                  have hKl : (0 : Int) < ((k :: K).length : Int) := by simp
                  have hKl2 : 0 < (k :: K).length := by simp
                  clear hkat
                  obtain ⟨nK, hnK⟩ : ∃ nK, nK = (k :: K).length := ⟨_, rfl⟩
                  skip
                  rw [← hnK] at x2 hKl hKl2 hkc
                  clear hnK
                  go_wp2_with (go_at_call 68; refine (compare_any _ _ _).mono ?_; rintro z w8 ⟨rfl, rfl⟩)
                  go_meet
                  exact ⟨rfl, Below.refl _ _⟩
              case rest =>
                obtain ⟨rfl, hb8⟩ := hcut
                have hB8 := Lib.hid (hB7.out.trans (hb8.mono hB7.out.size))
                have hrow8 := Lib.hid (hrow7.out.below hb8)
                have x4' := keep hb8 x4
                have x5' := keep hb8 x5
                clear x2 x4 x5 x6 hb8 hrow7 hB7 hhl
                have hsr := Lib.hid ((hnat.out.2.2.below hB8.out).src hcel_len hcel_one (by decide))
                have hlm : Hid ((kidsOf A).length + H.length ≤ maxLen) := Lib.hid (by unfold maxLen; have := hkl.out; omega)
                have hly : Hid (((kidsOf A).length + H.length) * 16 ≤ 140737488355328) := Lib.hid (by have := hkl.out; omega)
                obtain ⟨LL, hLL⟩ : ∃ LL, LL = kidsOf A := ⟨_, rfl⟩
                rw [← hLL] at hrow8 hlm hly ⊢
                have hLL2 : Hid (LL ++ H = kidsOf (A ++ [((h1, h2), (⟨lf2, K, V, H, hi, true, hz⟩ : BN))])) := Lib.hid (by rw [kidsOf_snoc, hLL])
                clear hLL
                have hbb := Lib.hid hB8.out.size
                go_wp2_with (at_builtin; refine wpList_append_row (f := hcel) (M := H) _ rfl _ _ 76 rfl w.heap.size 70 i0 (.agg #[.int .i64 0, .int .u64 0]) 2 16 Try.underlying76 hi0 hzA hzB hzC rfl (by decide) (.slice va LL.length vc) LL rfl hrow8.out _ rfl hsr.out hlm.out hly.out hbb.out ?_; intro a' c' w9 hrow9 hu9 hat9; replace hrow9 := Lib.hid hrow9; replace hu9 := Lib.hid hu9; replace hat9 := Lib.hid hat9)
                go_roundg (B.length + 1)
                case rel =>
                  refine ⟨A ++ [((h1, h2), (⟨lf2, K, V, H, hi, true, hz⟩ : BN))], (hz, nz) :: B, hi, rfl, by rw [hAB.out]; simp, ?_, rfl, ?_, ?_, ?_, hB8.out.trans (hu9.out.below hB8.out.size (fun b hb => ?_))⟩
                  · intro _
                    have := hnb.out
                    rw [if_pos (by trivial)] at this
                    exact this
                  · rw [List.length_append, ← hia.out]; go_num
                  · rw [if_neg (by simp), ← hlx.out]
                  · rw [← hLL2.out]; first | exact hrow9.out | simpa using hrow9.out
                  · exact (hrow8.out.lt b (by simpa using hb)).1
                case measure => simp
end
end Go.Proofs.Ytlhobbfncjjeaaa
namespace Go.Proofs.Ytlhobbfncjjeaaa
open Go.RowKit
/-- Where the kids of a level end. -/
def wants (R : Lev) : List Str := R.flatMap fun x => x.2.keys ++ if x.2.bnd then [x.2.high] else []
theorem wants_snoc (A : Lev) (x : Hd × BN) : wants (A ++ [x]) = wants A ++ (x.2.keys ++ if x.2.bnd then [x.2.high] else []) := by simp [wants]
theorem wants_split (A B : Lev) (x : Hd × BN) : wants (A ++ x :: B) = wants A ++ ((x.2.keys ++ if x.2.bnd then [x.2.high] else []) ++ wants B) := by simp [wants]
theorem kidsK_snd {n : BN} (h : n.kids.length = n.keys.length + 1) : (kidsK n).map (·.2) = n.keys.map some ++ [n.hi] := by
  unfold kidsK
  rw [List.map_snd_zip (by simp; omega)]
theorem under_ends : ∀ {R : Lev} {lo : Str}, R ≠ [] → Seg lo R (0, 0) none → (∀ x, x ∈ R → x.2.leaf = false) → (under R).map (·.2) = (wants R).map some ++ [none]
  | [], _, h, _, _ => absurd rfl h
  | (h0, n) :: B, lo, _, ⟨h1, h2, h3⟩, hl => by
    have hk := (h1.inn (hl (h0, n) (by simp))).2
    rw [under_cons, List.map_append, kidsK_snd hk]
    by_cases hb : n.bnd = true
    · rw [if_pos hb] at h3
      have hB : B ≠ [] := by
        intro e; rw [e] at h3; simp [Seg] at h3
      rw [under_ends hB h3 (fun x hx => hl x (by simp [hx]))]
      simp [wants, hb, BN.hi]
    · rw [if_neg hb] at h3
      rw [h3.1]
      simp [wants, hb, BN.hi, under]
theorem Tower.ends {Ls : List Lev} (ht : Tower Ls) {j : Nat} {S R : Lev} (hS : Ls[j]? = some S) (hR : Ls[j + 1]? = some R) : S.length = (wants R).length + 1 ∧ ∀ (i : Nat) (x : Hd × BN) (k : Str), S[i]? = some x → (wants R)[i]? = some k → x.2.high = k := by
  have okR := ht.ok _ _ hR
  rw [show decide (j + 1 = 0) = false by simp] at okR
  have hne : R ≠ [] := by
    intro e
    have := okR.seg
    rw [e] at this; simp [Seg] at this
  have h1 := under_ends hne okR.seg okR.lf
  rw [← ht.link _ _ _ hS hR] at h1
  unfold sk at h1
  rw [List.map_map] at h1
  refine ⟨by have := congrArg List.length h1; simpa using this, fun i x k hx hk => ?_⟩
  have h2 := congrArg (fun l => l[i]?) h1
  simp only [List.getElem?_map, hx] at h2
  have hlt := (List.getElem?_eq_some_iff.1 hk).1
  rw [List.getElem?_append_left (by simpa using hlt), List.getElem?_map, hk] at h2
  simp only [Option.map_some, Function.comp, Option.some.injEq] at h2
  unfold BN.hi at h2
  split at h2
  · injection h2
  · cases h2
theorem st_info : ∃ i0 : TypeInfo, Try.prog.info? 9 = some i0 ∧ i0.zero = some (.string ⟨#[]⟩) ∧ i0.size = 1 ∧ i0.bytes = 16 := info_parts (show (Try.prog.info? 9).map (fun i => (i.zero, i.size, i.bytes)) = some (some (.string ⟨#[]⟩), 1, 16) by kernel_rfl)
theorem row_cells {w : World} {ra : Option Addr} {rc : Nat} {R : Lev} (hrow : At w 2 hcel ra rc (R.map (·.1))) : 0 < R.length → ∃ b o, ra = some ⟨b, o, none⟩ ∧ R.length ≤ rc ∧ rc ≤ 9223372036854775807 ∧ ∀ i x, R[i]? = some x → w.cell? ⟨b, o + i * 2, none⟩ = some (.int .i64 x.1.1) ∧ w.cell? ⟨b, o + i * 2 + 1, none⟩ = some (.int .u64 x.1.2) := fun hn => by
  obtain ⟨b, o, e, h1, h2, h3, h4⟩ := hrow.some (by simpa using hn)
  refine ⟨b, o, e, by simpa using h2, h3, fun i x hx => ?_⟩
  have h5 := h4 i x.1 (by rw [List.getElem?_map, hx]; rfl)
  exact ⟨by simpa using h5 0 _ rfl, h5 1 _ rfl⟩
section
variable {w0 w : World} {ρ : Nat → Nat} {P : Nat × Nat × Nat} {gens : List Int} {free : List Bool} {D : List ArD} {rt i t : Nat} {d : ArD} {Ls : List Lev} {r : Hd} {size : Nat}
set_option maxRecDepth 100000 in
set_option maxHeartbeats 4000000 in
theorem Tr.ends (hB : BW w0 w ρ P gens free D) (h : Tr w ρ P D rt i t d Ls r size) {j : Nat} {S R : Lev} (hS : Ls[j]? = some S) (hR : Ls[j + 1]? = some R) {ra sa : Option Addr} {rc sc : Nat} (hrow : At w 2 hcel ra rc (R.map (·.1))) (hrowS : At w 2 hcel sa sc (S.map (·.1))) (_ : R.length ≤ 100000) (hSl : S.length ≤ 100000) :
    Calls Try.prog 50 #[.pointer (some ⟨t, 0, none⟩), .slice ra R.length rc, .slice sa S.length sc] w fun e w' => e = .returned (.bool true) ∧ Below w.heap.size w w' := by
  obtain ⟨hlen, hhi⟩ := h.tow.ends hS hR
  obtain ⟨c0, c1, c2, c3, c4, c5, hq⟩ := h.cells
  have hEn := Lib.hid fun (x : Hd × BN) hx => h.entry hB (x := x) (mem_flat hR hx)
  have hEnS := Lib.hid fun (x : Hd × BN) hx => h.entry hB (x := x) (mem_flat hS hx)
  have hneR := Lib.hid (row_cells hrow)
  have hneS := Lib.hid (row_cells hrowS)
  clear h hB hR hS hrow hrowS
  obtain ⟨i0, hi0, hzA, hzB, hzC⟩ := st_info
  have hWl : (wants R).length ≤ 100000 := by omega
  replace hhi := Lib.hid hhi
  replace hlen := Lib.hid hlen
  go_enter Try.func50, Try.ntmps50
  go_wp2_with fail
  go_loopg [7, 18] R.length (fun gk v7 v18 wr => ∃ (A B : Lev), gk = B.length ∧ R = A ++ B ∧ v18 = .int .i64 A.length ∧ Row w.heap.size 9 1 scell wr v7 (wants A) ∧ Below w.heap.size w wr)
  case atStart => exact ⟨[], R, rfl, rfl, rfl, Row.nil scell_len scell_one _ _ _, Below.refl _ _⟩
  case round =>
    obtain ⟨A, B, rfl, hAB, rfl, hrow, hB⟩ := hrel
    obtain ⟨va, vc, rfl⟩ := hrow.shape
    cases B with
    | nil =>
      have hR : R = A := by simpa using hAB
      subst hR
      replace hrow := Lib.hid hrow
      obtain ⟨LW, hLW⟩ : ∃ LW, LW = wants R := ⟨_, rfl⟩
      rw [← hLW] at hrow hWl hlen hhi ⊢
      clear hLW hAB
      go_wp2_with fail
      go_loopg [51] S.length (fun gk v51 wr => ∃ k : Nat, gk = S.length - k ∧ k ≤ S.length ∧ v51 = .int .i64 k ∧ Row w.heap.size 9 1 scell wr (.slice va LW.length vc) LW ∧ Below w.heap.size w wr)
      case atStart => exact ⟨0, rfl, Nat.zero_le _, rfl, hrow.out, hB⟩
      case round =>
        clear hrow hB
        obtain ⟨k, rfl, hk, rfl, hrow, hB⟩ := hrel
        by_cases hlt : k < S.length
        · obtain ⟨x, hx⟩ : ∃ x, S[k]? = some x := ⟨_, List.getElem?_eq_getElem hlt⟩
          have hhx := Lib.hid (fun y hy => hhi.out k x y hx hy)
          obtain ⟨e, he, e1, e2, qka, qva, qha, qkc, qvc, qhc, hnat, hcel0, hG⟩ := hEnS.out x (List.mem_of_getElem? hx)
          obtain ⟨b, o, rfl, hrc, hrc2, hcl⟩ := hneS.out (by omega)
          obtain ⟨k0, k1⟩ := hcl k x hx
          clear hcl he e1 e2 hx
          obtain ⟨⟨h1, h2⟩, n⟩ := x
          simp only at hnat hcel0 hG k0 k1 hhx
          obtain ⟨x1, x2, x3, x4, x5, x6, x7, x8⟩ := node_cells1 n qka qva qha qkc qvc qhc hcel0
          have hqw : e.blk < w.heap.size := heap_lt hcel0
          generalize e.blk = q at *
          clear x1 x2 x3 x4 x6 x7 x8 hcel0 hnat
          have g0 := keep hB k0
          have g1 := keep hB k1
          have hbw := block_lt_of_cell k0
          have hA2 : (k : Int) < (S.length : Int) := by omega
          have hA3 : (0 : Int) ≤ (k : Int) := by omega
          have hw1 : IntKind.i64.wrap ((k : Int) + 1) = (k : Int) + 1 := IntWalk.i64_in _ (by omega)
          have hbx := heap_alloc_new wr (.cells #[.int .i64 h1, .int .u64 h2] 70)
          have hB2 : Below w.heap.size w (wr.alloc (.cells #[.int .i64 h1, .int .u64 h2] 70)) := hB.alloc hB.size _
          have hrow2 := Lib.hid (hrow.below (w' := wr.alloc (.cells #[.int .i64 h1, .int .u64 h2] 70)) ((Below.refl _ _).alloc (Nat.le_refl _) _))
          have hbxs := hB.size
          replace hbx := Lib.hid hbx
          replace hB2 := Lib.hid hB2
          replace hG := Lib.hid hG
          clear hrow
          go_upto_region 13 with fail
          generalize wr.alloc (.cells #[.int .i64 h1, .int .u64 h2] 70) = W0 at *
          have bx0 : W0.cell? ⟨wr.heap.size, 0, none⟩ = some (.int .i64 h1) := by rw [cell_of_heap hbx.out]; rfl
          have bx1 : W0.cell? ⟨wr.heap.size, 1, none⟩ = some (.int .u64 h2) := by rw [cell_of_heap hbx.out]; rfl
          have c1'' := keep hB2.out c1
          have hbxl := heap_lt hbx.out
          clear g0 g1 k0 k1
          go_cut [14, 15] (fun v14 v15 wx => v14 = .pointer (some ⟨q, 1, none⟩) ∧ v15 = .bool true ∧ Below W0.heap.size W0 wx)
          case first =>
            go_region_with (go_at_call 52; refine (hG.out _ hB2.out.drew).mono ?_; rintro z1 w9 ⟨rfl, hb9⟩; have hbw := ((Below.refl W0.heap.size W0).drew).trans hb9; replace hbw := Lib.hid hbw; clear hb9)
            all_goals
              go_wp2_with fail
              go_meet
              exact ⟨rfl, rfl, hbw.out⟩
          case rest =>
            obtain ⟨rfl, rfl, hb3⟩ := hcut
            have hB3 := Lib.hid (hB2.out.trans (hb3.mono hB2.out.size))
            have hrow3 := Lib.hid (hrow2.out.below hb3)
            clear bx0 bx1 c1'' hb3 hG hbxl hrow2 hbx hB2
            have y5 := keep hB3.out x5
            go_upto_region 14 with fail
            go_cut [83] (fun v wx => v = .bool false ∧ Below wc.heap.size wc wx)
            case first =>
              by_cases hkw : k < LW.length
              · obtain ⟨y, hy⟩ : ∃ y, LW[k]? = some y := ⟨_, List.getElem?_eq_getElem hkw⟩
                have hyy := hhx.out y hy
                obtain ⟨wb, wcap, ev, _, _, hwb, hwc1, hwc2, _, hat⟩ := hrow3.out.at hy
                injection ev with ev ev1 ev2
                subst ev ev2
                clear ev1
                have gy := hat 0 _ rfl
                rw [Nat.mul_one, Nat.add_zero] at gy
                subst hyy
                have hk3 : (k : Int) < (LW.length : Int) := by omega
                have hk4 : decide ((k : Int) < (LW.length : Int)) = true := by simpa using hkw
                have hk5 : decide (k < LW.length) = true := by simpa using hkw
                clear hat hy
                go_quiet (fail)
                go_wp2_with fail
                go_meet
                exact ⟨by simp, below_drewN (Below.refl _ _) _⟩
              · have hk4 : decide ((k : Int) < (LW.length : Int)) = false := by rw [decide_eq_false_iff_not]; omega
                have hk5 : decide (k < LW.length) = false := by simpa using hkw
                go_quiet (fail)
                go_wp2_with fail
                go_meet
                exact ⟨by simp, below_drewN (Below.refl _ _) _⟩
            case rest =>
              obtain ⟨rfl, hb7⟩ := hcut
              have hB7 := Lib.hid (hB3.out.trans (hb7.mono hB3.out.size))
              have hrow7 := Lib.hid (hrow3.out.below hb7)
              clear hb7 y5
              go_wp2_with fail
              go_roundg (S.length - (k + 1))
              case rel => exact ⟨k + 1, rfl, by omega, by go_num, hrow7.out, hB7.out⟩
              case measure => omega
        · obtain rfl : k = S.length := by omega
          have hle : (((S.length : Nat) : Int) == (LW.length : Int) + 1) = true := by rw [beq_iff_eq]; have := hlen.out; omega
          have hw1 : IntKind.i64.wrap ((LW.length : Int) + 1) = (LW.length : Int) + 1 := IntWalk.i64_in _ (by omega)
          replace hB := Lib.hid hB
          replace hrow := Lib.hid hrow
          go_wp2_with fail
          go_ret
          exact ⟨rfl, hB.out⟩
    | cons x B =>
      have hxR : x ∈ R := by rw [hAB]; simp
      obtain ⟨e, he, e1, e2, qka, qva, qha, qkc, qvc, qhc, hnat, hcel0, hG⟩ := hEn.out x hxR
      obtain ⟨b, o, rfl, hrc, hrc2, hcl⟩ := hneR.out (by rw [hAB]; simp; omega)
      have hAl : A.length < R.length := by rw [hAB]; simp
      obtain ⟨k0, k1⟩ := hcl A.length x (by rw [hAB]; simp)
      have hwl : Hid ((wants A).length + (x.2.keys.length + 1) ≤ 100001) := Lib.hid (by rw [hAB, wants_split] at hWl; simp at hWl; omega)
      clear hcl he e1 e2
      obtain ⟨⟨h1, h2⟩, n⟩ := x
      simp only at hnat hcel0 hG k0 k1 hwl
      obtain ⟨x1, x2, x3, x4, x5, x6, x7, x8⟩ := node_cells1 n qka qva qha qkc qvc qhc hcel0
      have hqw : e.blk < w.heap.size := heap_lt hcel0
      generalize e.blk = q at *
      clear x1 x3 x4 x7 x8 hcel0
      have g0 := keep hB k0
      have g1 := keep hB k1
      have hbw := block_lt_of_cell k0
      have hA2 : (A.length : Int) < (R.length : Int) := by omega
      have hA3 : (0 : Int) ≤ (A.length : Int) := by omega
      have hbx := heap_alloc_new wr (.cells #[.int .i64 h1, .int .u64 h2] 70)
      have hB2 : Below w.heap.size w (wr.alloc (.cells #[.int .i64 h1, .int .u64 h2] 70)) := hB.alloc hB.size _
      have hrow2 := Lib.hid (hrow.below (w' := wr.alloc (.cells #[.int .i64 h1, .int .u64 h2] 70)) ((Below.refl _ _).alloc (Nat.le_refl _) _))
      have hbxs := hB.size
      obtain ⟨ia, hia⟩ : ∃ ia, ia = A.length := ⟨_, rfl⟩
      rw [← hia] at hAl g0 g1 k0 k1 hA2 hA3 ⊢
      have hw1 : IntKind.i64.wrap ((ia : Int) + 1) = (ia : Int) + 1 := IntWalk.i64_in _ (by omega)
      replace hia := Lib.hid hia
      replace hbx := Lib.hid hbx
      replace hB2 := Lib.hid hB2
      replace hG := Lib.hid hG
      replace hAB := Lib.hid hAB
      replace hnat := Lib.hid hnat
      clear hrow
      go_upto_region 5 with fail
      generalize wr.alloc (.cells #[.int .i64 h1, .int .u64 h2] 70) = W0 at *
      have bx0 : W0.cell? ⟨wr.heap.size, 0, none⟩ = some (.int .i64 h1) := by rw [cell_of_heap hbx.out]; rfl
      have bx1 : W0.cell? ⟨wr.heap.size, 1, none⟩ = some (.int .u64 h2) := by rw [cell_of_heap hbx.out]; rfl
      have c1'' := keep hB2.out c1
      have hbxl := heap_lt hbx.out
      clear g0 g1 k0 k1
      go_cut [10, 11] (fun v10 v11 wx => v10 = .pointer (some ⟨q, 1, none⟩) ∧ v11 = .bool true ∧ Below W0.heap.size W0 wx)
      case first =>
        go_region_with (go_at_call 52; refine (hG.out _ hB2.out.drew).mono ?_; rintro z1 w9 ⟨rfl, hb9⟩; have hbw := ((Below.refl W0.heap.size W0).drew).trans hb9; replace hbw := Lib.hid hbw; clear hb9)
        all_goals
          go_wp2_with fail
          go_meet
          exact ⟨rfl, rfl, hbw.out⟩
      case rest =>
        obtain ⟨rfl, rfl, hb3⟩ := hcut
        have hB3 := Lib.hid (hB2.out.trans (hb3.mono hB2.out.size))
        have hrow3 := Lib.hid (hrow2.out.below hb3)
        have hsr := Lib.hid ((hnat.out.1.below hB3.out).src scell_len scell_one (by decide))
        clear bx0 bx1 c1'' hb3 hG hbxl hrow2 hbx hB2
        have y2 := keep hB3.out x2
        have y5 := keep hB3.out x5
        have y6 := keep hB3.out x6
        obtain ⟨lf, K, V, H, hi, bd, nx⟩ := n
        simp only at y2 y5 y6 hsr x2 x5 x6 hwl
        have hlm : Hid ((wants A).length + K.length ≤ maxLen) := Lib.hid (by unfold maxLen; have := hwl.out; omega)
        have hly : Hid (((wants A).length + K.length) * 16 ≤ 140737488355328) := Lib.hid (by have := hwl.out; omega)
        have hlm2 : Hid (((wants A) ++ K).length + 1 ≤ maxLen) := Lib.hid (by unfold maxLen; have := hwl.out; rw [List.length_append]; omega)
        have hly2 : Hid ((((wants A) ++ K).length + 1) * 16 ≤ 140737488355328) := Lib.hid (by have := hwl.out; rw [List.length_append]; omega)
        have hbb := Lib.hid hB3.out.size
        have hLL2 := Lib.hid (wants_snoc A ((h1, h2), (⟨lf, K, V, H, hi, bd, nx⟩ : BN)))
        obtain ⟨LL, hLL⟩ : ∃ LL, LL = wants A := ⟨_, rfl⟩
        rw [← hLL] at hrow3 hlm hly hlm2 hly2 hLL2 ⊢
        clear hLL hwl
        cases bd with
        | false =>
          go_wp2_with (at_builtin; refine wpList_append_row (f := scell) (M := K) _ rfl _ _ 87 rfl w.heap.size 9 i0 (.string ⟨#[]⟩) 1 16 Try.underlying87 hi0 hzA hzB hzC rfl (by decide) (.slice va LL.length vc) LL rfl hrow3.out _ rfl hsr.out hlm.out hly.out hbb.out ?_; intro a' c' w9 hrow9 hu9 hat9; have hb9 := hB3.out.trans (hu9.below hB3.out.size (fun b hb => (hrow3.out.lt b (by simpa using hb)).1)); have y6 := keep hb9 x6; have y5 := keep hb9 x5; replace hb9 := Lib.hid hb9; replace hrow9 := Lib.hid hrow9; replace hu9 := Lib.hid hu9; replace hat9 := Lib.hid hat9)
          go_roundg B.length
          case rel =>
            refine ⟨A ++ [((h1, h2), (⟨lf, K, V, H, hi, false, nx⟩ : BN))], B, rfl, by rw [hAB.out]; simp, ?_, ?_, hb9.out⟩
            · rw [List.length_append, ← hia.out]; go_num
            · rw [hLL2.out]
              have := hrow9.out
              simpa using this
          case measure => simp
        | true =>
          go_upto_region 8 with (at_builtin; refine wpList_append_row (f := scell) (M := K) _ rfl _ _ 87 rfl w.heap.size 9 i0 (.string ⟨#[]⟩) 1 16 Try.underlying87 hi0 hzA hzB hzC rfl (by decide) (.slice va LL.length vc) LL rfl hrow3.out _ rfl hsr.out hlm.out hly.out hbb.out ?_; intro a' c' w9 hrow9 hu9 hat9; have hb9 := hB3.out.trans (hu9.below hB3.out.size (fun b hb => (hrow3.out.lt b (by simpa using hb)).1)); have y6 := keep hb9 x6; have y5 := keep hb9 x5; replace hb9 := Lib.hid hb9; replace hrow9 := Lib.hid hrow9; replace hu9 := Lib.hid hu9; replace hat9 := Lib.hid hat9)
          have hA1 : Below w9.heap.size w9 (w9.alloc (.cells #[.string hi] 9)) := (Below.refl _ _).alloc (Nat.le_refl _) _
          have hr5 := Lib.hid (hrow9.out.below hA1)
          have hs5 := Lib.hid (SrcOf.one w9 9 [.string hi] (by intro y hy; simp at hy; subst hy; rfl))
          have hbel := Lib.hid (hb9.out.trans (hA1.mono hb9.out.size))
          have hbb5 := Lib.hid hbel.out.size
          have hr6 : Hid (Row w.heap.size 9 1 scell (w9.alloc (.cells #[.string hi] 9)) (.slice a' (LL ++ K).length c') (LL ++ K)) := Lib.hid (by rw [List.length_append]; exact hr5.out)
          obtain ⟨MM, hMM⟩ : ∃ MM, MM = LL ++ K := ⟨_, rfl⟩
          have hml : LL.length + K.length = MM.length := by rw [hMM, List.length_append]
          rw [← hMM] at hr6 hlm2 hly2
          rw [hml]
          replace hMM := Lib.hid hMM
          replace hml := Lib.hid hml
          clear hA1 hr5
          go_wp2_with (at_builtin; refine wpList_append_row (f := scell) (M := [hi]) _ rfl _ _ 87 rfl w.heap.size 9 i0 (.string ⟨#[]⟩) 1 16 Try.underlying87 hi0 hzA hzB hzC rfl (by decide) (.slice a' MM.length c') MM rfl hr6.out _ rfl hs5.out hlm2.out hly2.out hbb5.out ?_; intro a2 c2' w10 hrow10 hu10 hat10; replace hrow10 := Lib.hid hrow10; replace hu10 := Lib.hid hu10; replace hat10 := Lib.hid hat10)
          go_roundg B.length
          case rel =>
            refine ⟨A ++ [((h1, h2), (⟨lf, K, V, H, hi, true, nx⟩ : BN))], B, rfl, by rw [hAB.out]; simp, ?_, ?_, hbel.out.trans (hu10.out.below hbel.out.size (fun b hb => (hr6.out.lt b (by simpa using hb)).1))⟩
            · rw [List.length_append, ← hia.out]; go_num
            · have e : wants (A ++ [((h1, h2), (⟨lf, K, V, H, hi, true, nx⟩ : BN))]) = MM ++ [hi] := by rw [hLL2.out, hMM.out]; simp
              rw [e]
              exact hrow10.out
          case measure => simp
end
end Go.Proofs.Ytlhobbfncjjeaaa
