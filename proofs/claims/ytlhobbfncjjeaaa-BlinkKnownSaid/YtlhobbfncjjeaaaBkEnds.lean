/- The contract of a B-link tree's ends. -/
import Derived.Test.YtlhobbfncjjeaaaBkLevel
namespace Go.Proofs.Ytlhobbfncjjeaaa
open Go.RowKit
/-- Where the kids of a level end. -/
def wants (R : Lev) : List Str := R.flatMap fun x => x.2.keys ++ if x.2.bnd then [x.2.high] else []
theorem wants_snoc (A : Lev) (x : Hd × BN) : wants (A ++ [x]) = wants A ++ (x.2.keys ++ if x.2.bnd then [x.2.high] else []) := by simp [wants]
theorem wants_split (A B : Lev) (x : Hd × BN) : wants (A ++ x :: B) = wants A ++ ((x.2.keys ++ if x.2.bnd then [x.2.high] else []) ++ wants B) := by simp [wants]
theorem kidsK_snd {n : BN} (h : n.kids.length = n.keys.length + 1) : (kidsK n).map (·.2) = n.keys.map some ++ [n.hi] := by
  unfold kidsK
  rw [List.map_snd_zip (by simp; omega)]
theorem under_ends : ∀ {R : Lev} {lo : Str}, R ≠ [] → Seg lo R (0, 0) none → (∀ x, x ∈ R → x.2.leaf = false) → (under R).map (·.2) = (wants R).map some ++ [none]
  | [], _, h, _, _ => absurd rfl h
  | (h0, n) :: B, lo, _, ⟨h1, h2, h3⟩, hl => by
    have hk := (h1.inn (hl (h0, n) (by simp))).2
    rw [under_cons, List.map_append, kidsK_snd hk]
    by_cases hb : n.bnd = true
    · rw [if_pos hb] at h3
      have hB : B ≠ [] := by
        intro e; rw [e] at h3; simp [Seg] at h3
      rw [under_ends hB h3 (fun x hx => hl x (by simp [hx]))]
      simp [wants, hb, BN.hi]
    · rw [if_neg hb] at h3
      rw [h3.1]
      simp [wants, hb, BN.hi, under]
theorem Tower.ends {Ls : List Lev} (ht : Tower Ls) {j : Nat} {S R : Lev} (hS : Ls[j]? = some S) (hR : Ls[j + 1]? = some R) : S.length = (wants R).length + 1 ∧ ∀ (i : Nat) (x : Hd × BN) (k : Str), S[i]? = some x → (wants R)[i]? = some k → x.2.high = k := by
  have okR := ht.ok _ _ hR
  rw [show decide (j + 1 = 0) = false by simp] at okR
  have hne : R ≠ [] := by
    intro e
    have := okR.seg
    rw [e] at this; simp [Seg] at this
  have h1 := under_ends hne okR.seg okR.lf
  rw [← ht.link _ _ _ hS hR] at h1
  unfold sk at h1
  rw [List.map_map] at h1
  refine ⟨by have := congrArg List.length h1; simpa using this, fun i x k hx hk => ?_⟩
  have h2 := congrArg (fun l => l[i]?) h1
  simp only [List.getElem?_map, hx] at h2
  have hlt := (List.getElem?_eq_some_iff.1 hk).1
  rw [List.getElem?_append_left (by simpa using hlt), List.getElem?_map, hk] at h2
  simp only [Option.map_some, Function.comp, Option.some.injEq] at h2
  unfold BN.hi at h2
  split at h2
  · injection h2
  · cases h2
theorem st_info : ∃ i0 : TypeInfo, Try.prog.info? 9 = some i0 ∧ i0.zero = some (.string ⟨#[]⟩) ∧ i0.size = 1 ∧ i0.bytes = 16 := info_parts (show (Try.prog.info? 9).map (fun i => (i.zero, i.size, i.bytes)) = some (some (.string ⟨#[]⟩), 1, 16) by kernel_rfl)
theorem row_cells {w : World} {ra : Option Addr} {rc : Nat} {R : Lev} (hrow : At w 2 hcel ra rc (R.map (·.1))) : 0 < R.length → ∃ b o, ra = some ⟨b, o, none⟩ ∧ R.length ≤ rc ∧ rc ≤ 9223372036854775807 ∧ ∀ i x, R[i]? = some x → w.cell? ⟨b, o + i * 2, none⟩ = some (.int .i64 x.1.1) ∧ w.cell? ⟨b, o + i * 2 + 1, none⟩ = some (.int .u64 x.1.2) := fun hn => by
  obtain ⟨b, o, e, h1, h2, h3, h4⟩ := hrow.some (by simpa using hn)
  refine ⟨b, o, e, by simpa using h2, h3, fun i x hx => ?_⟩
  have h5 := h4 i x.1 (by rw [List.getElem?_map, hx]; rfl)
  exact ⟨by simpa using h5 0 _ rfl, h5 1 _ rfl⟩
section
variable {w0 w : World} {ρ : Nat → Nat} {P : Nat × Nat × Nat} {gens : List Int} {free : List Bool} {D : List ArD} {rt i t : Nat} {d : ArD} {Ls : List Lev} {r : Hd} {size : Nat}
set_option maxRecDepth 100000 in
set_option maxHeartbeats 4000000 in
theorem Tr.ends (hB : BW w0 w ρ P gens free D) (h : Tr w ρ P D rt i t d Ls r size) {j : Nat} {S R : Lev} (hS : Ls[j]? = some S) (hR : Ls[j + 1]? = some R) {ra sa : Option Addr} {rc sc : Nat} (hrow : At w 2 hcel ra rc (R.map (·.1))) (hrowS : At w 2 hcel sa sc (S.map (·.1))) (_ : R.length ≤ 100000) (hSl : S.length ≤ 100000) :
    Calls Try.prog 50 #[.pointer (some ⟨t, 0, none⟩), .slice ra R.length rc, .slice sa S.length sc] w fun e w' => e = .returned (.bool true) ∧ Below w.heap.size w w' := by
  obtain ⟨hlen, hhi⟩ := h.tow.ends hS hR
  obtain ⟨c0, c1, c2, c3, c4, c5, hq⟩ := h.cells
  have hEn := Lib.hid fun (x : Hd × BN) hx => h.entry hB (x := x) (mem_flat hR hx)
  have hEnS := Lib.hid fun (x : Hd × BN) hx => h.entry hB (x := x) (mem_flat hS hx)
  have hneR := Lib.hid (row_cells hrow)
  have hneS := Lib.hid (row_cells hrowS)
  clear h hB hR hS hrow hrowS
  obtain ⟨i0, hi0, hzA, hzB, hzC⟩ := st_info
  have hWl : (wants R).length ≤ 100000 := by omega
  replace hhi := Lib.hid hhi
  replace hlen := Lib.hid hlen
  go_enter Try.func50, Try.ntmps50
  go_wp2_with fail
  go_loopg [7, 18] R.length (fun gk v7 v18 wr => ∃ (A B : Lev), gk = B.length ∧ R = A ++ B ∧ v18 = .int .i64 A.length ∧ Row w.heap.size 9 1 scell wr v7 (wants A) ∧ Below w.heap.size w wr)
  case atStart => exact ⟨[], R, rfl, rfl, rfl, Row.nil scell_len scell_one _ _ _, Below.refl _ _⟩
  case round =>
    obtain ⟨A, B, rfl, hAB, rfl, hrow, hB⟩ := hrel
    obtain ⟨va, vc, rfl⟩ := hrow.shape
    cases B with
    | nil =>
      have hR : R = A := by simpa using hAB
      subst hR
      replace hrow := Lib.hid hrow
      obtain ⟨LW, hLW⟩ : ∃ LW, LW = wants R := ⟨_, rfl⟩
      rw [← hLW] at hrow hWl hlen hhi ⊢
      clear hLW hAB
      go_wp2_with fail
      go_loopg [51] S.length (fun gk v51 wr => ∃ k : Nat, gk = S.length - k ∧ k ≤ S.length ∧ v51 = .int .i64 k ∧ Row w.heap.size 9 1 scell wr (.slice va LW.length vc) LW ∧ Below w.heap.size w wr)
      case atStart => exact ⟨0, rfl, Nat.zero_le _, rfl, hrow.out, hB⟩
      case round =>
        clear hrow hB
        obtain ⟨k, rfl, hk, rfl, hrow, hB⟩ := hrel
        by_cases hlt : k < S.length
        · obtain ⟨x, hx⟩ : ∃ x, S[k]? = some x := ⟨_, List.getElem?_eq_getElem hlt⟩
          have hhx := Lib.hid (fun y hy => hhi.out k x y hx hy)
          obtain ⟨e, he, e1, e2, qka, qva, qha, qkc, qvc, qhc, hnat, hcel0, hG⟩ := hEnS.out x (List.mem_of_getElem? hx)
          obtain ⟨b, o, rfl, hrc, hrc2, hcl⟩ := hneS.out (by omega)
          obtain ⟨k0, k1⟩ := hcl k x hx
          clear hcl he e1 e2 hx
          obtain ⟨⟨h1, h2⟩, n⟩ := x
          simp only at hnat hcel0 hG k0 k1 hhx
          obtain ⟨x1, x2, x3, x4, x5, x6, x7, x8⟩ := node_cells1 n qka qva qha qkc qvc qhc hcel0
          have hqw : e.blk < w.heap.size := heap_lt hcel0
          generalize e.blk = q at *
          clear x1 x2 x3 x4 x6 x7 x8 hcel0 hnat
          have g0 := keep hB k0
          have g1 := keep hB k1
          have hbw := block_lt_of_cell k0
          have hA2 : (k : Int) < (S.length : Int) := by omega
          have hA3 : (0 : Int) ≤ (k : Int) := by omega
          have hw1 : IntKind.i64.wrap ((k : Int) + 1) = (k : Int) + 1 := IntWalk.i64_in _ (by omega)
          have hbx := heap_alloc_new wr (.cells #[.int .i64 h1, .int .u64 h2] 70)
          have hB2 : Below w.heap.size w (wr.alloc (.cells #[.int .i64 h1, .int .u64 h2] 70)) := hB.alloc hB.size _
          have hrow2 := Lib.hid (hrow.below (w' := wr.alloc (.cells #[.int .i64 h1, .int .u64 h2] 70)) ((Below.refl _ _).alloc (Nat.le_refl _) _))
          have hbxs := hB.size
          replace hbx := Lib.hid hbx
          replace hB2 := Lib.hid hB2
          replace hG := Lib.hid hG
          clear hrow
          go_upto_region 13 with fail
          generalize wr.alloc (.cells #[.int .i64 h1, .int .u64 h2] 70) = W0 at *
          have bx0 : W0.cell? ⟨wr.heap.size, 0, none⟩ = some (.int .i64 h1) := by rw [cell_of_heap hbx.out]; rfl
          have bx1 : W0.cell? ⟨wr.heap.size, 1, none⟩ = some (.int .u64 h2) := by rw [cell_of_heap hbx.out]; rfl
          have c1'' := keep hB2.out c1
          have hbxl := heap_lt hbx.out
          clear g0 g1 k0 k1
          go_cut [14, 15] (fun v14 v15 wx => v14 = .pointer (some ⟨q, 1, none⟩) ∧ v15 = .bool true ∧ Below W0.heap.size W0 wx)
          case first =>
            go_region_with (go_at_call 52; refine (hG.out _ hB2.out.drew).mono ?_; rintro z1 w9 ⟨rfl, hb9⟩; have hbw := ((Below.refl W0.heap.size W0).drew).trans hb9; replace hbw := Lib.hid hbw; clear hb9)
            all_goals
              go_wp2_with fail
              go_meet
              exact ⟨rfl, rfl, hbw.out⟩
          case rest =>
            obtain ⟨rfl, rfl, hb3⟩ := hcut
            have hB3 := Lib.hid (hB2.out.trans (hb3.mono hB2.out.size))
            have hrow3 := Lib.hid (hrow2.out.below hb3)
            clear bx0 bx1 c1'' hb3 hG hbxl hrow2 hbx hB2
            have y5 := keep hB3.out x5
            go_upto_region 14 with fail
            go_cut [83] (fun v wx => v = .bool false ∧ Below wc.heap.size wc wx)
            case first =>
              by_cases hkw : k < LW.length
              · obtain ⟨y, hy⟩ : ∃ y, LW[k]? = some y := ⟨_, List.getElem?_eq_getElem hkw⟩
                have hyy := hhx.out y hy
                obtain ⟨wb, wcap, ev, _, _, hwb, hwc1, hwc2, _, hat⟩ := hrow3.out.at hy
                injection ev with ev ev1 ev2
                subst ev ev2
                clear ev1
                have gy := hat 0 _ rfl
                rw [Nat.mul_one, Nat.add_zero] at gy
                subst hyy
                have hk3 : (k : Int) < (LW.length : Int) := by omega
                have hk4 : decide ((k : Int) < (LW.length : Int)) = true := by simpa using hkw
                have hk5 : decide (k < LW.length) = true := by simpa using hkw
                clear hat hy
                go_quiet (fail)
                go_wp2_with fail
                go_meet
                exact ⟨by simp, below_drewN (Below.refl _ _) _⟩
              · have hk4 : decide ((k : Int) < (LW.length : Int)) = false := by rw [decide_eq_false_iff_not]; omega
                have hk5 : decide (k < LW.length) = false := by simpa using hkw
                go_quiet (fail)
                go_wp2_with fail
                go_meet
                exact ⟨by simp, below_drewN (Below.refl _ _) _⟩
            case rest =>
              obtain ⟨rfl, hb7⟩ := hcut
              have hB7 := Lib.hid (hB3.out.trans (hb7.mono hB3.out.size))
              have hrow7 := Lib.hid (hrow3.out.below hb7)
              clear hb7 y5
              go_wp2_with fail
              go_roundg (S.length - (k + 1))
              case rel => exact ⟨k + 1, rfl, by omega, by go_num, hrow7.out, hB7.out⟩
              case measure => omega
        · obtain rfl : k = S.length := by omega
          have hle : (((S.length : Nat) : Int) == (LW.length : Int) + 1) = true := by rw [beq_iff_eq]; have := hlen.out; omega
          have hw1 : IntKind.i64.wrap ((LW.length : Int) + 1) = (LW.length : Int) + 1 := IntWalk.i64_in _ (by omega)
          replace hB := Lib.hid hB
          replace hrow := Lib.hid hrow
          go_wp2_with fail
          go_ret
          exact ⟨rfl, hB.out⟩
    | cons x B =>
      have hxR : x ∈ R := by rw [hAB]; simp
      obtain ⟨e, he, e1, e2, qka, qva, qha, qkc, qvc, qhc, hnat, hcel0, hG⟩ := hEn.out x hxR
      obtain ⟨b, o, rfl, hrc, hrc2, hcl⟩ := hneR.out (by rw [hAB]; simp; omega)
      have hAl : A.length < R.length := by rw [hAB]; simp
      obtain ⟨k0, k1⟩ := hcl A.length x (by rw [hAB]; simp)
      have hwl : Hid ((wants A).length + (x.2.keys.length + 1) ≤ 100001) := Lib.hid (by rw [hAB, wants_split] at hWl; simp at hWl; omega)
      clear hcl he e1 e2
      obtain ⟨⟨h1, h2⟩, n⟩ := x
      simp only at hnat hcel0 hG k0 k1 hwl
      obtain ⟨x1, x2, x3, x4, x5, x6, x7, x8⟩ := node_cells1 n qka qva qha qkc qvc qhc hcel0
      have hqw : e.blk < w.heap.size := heap_lt hcel0
      generalize e.blk = q at *
      clear x1 x3 x4 x7 x8 hcel0
      have g0 := keep hB k0
      have g1 := keep hB k1
      have hbw := block_lt_of_cell k0
      have hA2 : (A.length : Int) < (R.length : Int) := by omega
      have hA3 : (0 : Int) ≤ (A.length : Int) := by omega
      have hbx := heap_alloc_new wr (.cells #[.int .i64 h1, .int .u64 h2] 70)
      have hB2 : Below w.heap.size w (wr.alloc (.cells #[.int .i64 h1, .int .u64 h2] 70)) := hB.alloc hB.size _
      have hrow2 := Lib.hid (hrow.below (w' := wr.alloc (.cells #[.int .i64 h1, .int .u64 h2] 70)) ((Below.refl _ _).alloc (Nat.le_refl _) _))
      have hbxs := hB.size
      obtain ⟨ia, hia⟩ : ∃ ia, ia = A.length := ⟨_, rfl⟩
      rw [← hia] at hAl g0 g1 k0 k1 hA2 hA3 ⊢
      have hw1 : IntKind.i64.wrap ((ia : Int) + 1) = (ia : Int) + 1 := IntWalk.i64_in _ (by omega)
      replace hia := Lib.hid hia
      replace hbx := Lib.hid hbx
      replace hB2 := Lib.hid hB2
      replace hG := Lib.hid hG
      replace hAB := Lib.hid hAB
      replace hnat := Lib.hid hnat
      clear hrow
      go_upto_region 5 with fail
      generalize wr.alloc (.cells #[.int .i64 h1, .int .u64 h2] 70) = W0 at *
      have bx0 : W0.cell? ⟨wr.heap.size, 0, none⟩ = some (.int .i64 h1) := by rw [cell_of_heap hbx.out]; rfl
      have bx1 : W0.cell? ⟨wr.heap.size, 1, none⟩ = some (.int .u64 h2) := by rw [cell_of_heap hbx.out]; rfl
      have c1'' := keep hB2.out c1
      have hbxl := heap_lt hbx.out
      clear g0 g1 k0 k1
      go_cut [10, 11] (fun v10 v11 wx => v10 = .pointer (some ⟨q, 1, none⟩) ∧ v11 = .bool true ∧ Below W0.heap.size W0 wx)
      case first =>
        go_region_with (go_at_call 52; refine (hG.out _ hB2.out.drew).mono ?_; rintro z1 w9 ⟨rfl, hb9⟩; have hbw := ((Below.refl W0.heap.size W0).drew).trans hb9; replace hbw := Lib.hid hbw; clear hb9)
        all_goals
          go_wp2_with fail
          go_meet
          exact ⟨rfl, rfl, hbw.out⟩
      case rest =>
        obtain ⟨rfl, rfl, hb3⟩ := hcut
        have hB3 := Lib.hid (hB2.out.trans (hb3.mono hB2.out.size))
        have hrow3 := Lib.hid (hrow2.out.below hb3)
        have hsr := Lib.hid ((hnat.out.1.below hB3.out).src scell_len scell_one (by decide))
        clear bx0 bx1 c1'' hb3 hG hbxl hrow2 hbx hB2
        have y2 := keep hB3.out x2
        have y5 := keep hB3.out x5
        have y6 := keep hB3.out x6
        obtain ⟨lf, K, V, H, hi, bd, nx⟩ := n
        simp only at y2 y5 y6 hsr x2 x5 x6 hwl
        have hlm : Hid ((wants A).length + K.length ≤ maxLen) := Lib.hid (by unfold maxLen; have := hwl.out; omega)
        have hly : Hid (((wants A).length + K.length) * 16 ≤ 140737488355328) := Lib.hid (by have := hwl.out; omega)
        have hlm2 : Hid (((wants A) ++ K).length + 1 ≤ maxLen) := Lib.hid (by unfold maxLen; have := hwl.out; rw [List.length_append]; omega)
        have hly2 : Hid ((((wants A) ++ K).length + 1) * 16 ≤ 140737488355328) := Lib.hid (by have := hwl.out; rw [List.length_append]; omega)
        have hbb := Lib.hid hB3.out.size
        have hLL2 := Lib.hid (wants_snoc A ((h1, h2), (⟨lf, K, V, H, hi, bd, nx⟩ : BN)))
        obtain ⟨LL, hLL⟩ : ∃ LL, LL = wants A := ⟨_, rfl⟩
        rw [← hLL] at hrow3 hlm hly hlm2 hly2 hLL2 ⊢
        clear hLL hwl
        cases bd with
        | false =>
          go_wp2_with (at_builtin; refine wpList_append_row (f := scell) (M := K) _ rfl _ _ 87 rfl w.heap.size 9 i0 (.string ⟨#[]⟩) 1 16 Try.underlying87 hi0 hzA hzB hzC rfl (by decide) (.slice va LL.length vc) LL rfl hrow3.out _ rfl hsr.out hlm.out hly.out hbb.out ?_; intro a' c' w9 hrow9 hu9 hat9; have hb9 := hB3.out.trans (hu9.below hB3.out.size (fun b hb => (hrow3.out.lt b (by simpa using hb)).1)); have y6 := keep hb9 x6; have y5 := keep hb9 x5; replace hb9 := Lib.hid hb9; replace hrow9 := Lib.hid hrow9; replace hu9 := Lib.hid hu9; replace hat9 := Lib.hid hat9)
          go_roundg B.length
          case rel =>
            refine ⟨A ++ [((h1, h2), (⟨lf, K, V, H, hi, false, nx⟩ : BN))], B, rfl, by rw [hAB.out]; simp, ?_, ?_, hb9.out⟩
            · rw [List.length_append, ← hia.out]; go_num
            · rw [hLL2.out]
              have := hrow9.out
              simpa using this
          case measure => simp
        | true =>
          go_upto_region 8 with (at_builtin; refine wpList_append_row (f := scell) (M := K) _ rfl _ _ 87 rfl w.heap.size 9 i0 (.string ⟨#[]⟩) 1 16 Try.underlying87 hi0 hzA hzB hzC rfl (by decide) (.slice va LL.length vc) LL rfl hrow3.out _ rfl hsr.out hlm.out hly.out hbb.out ?_; intro a' c' w9 hrow9 hu9 hat9; have hb9 := hB3.out.trans (hu9.below hB3.out.size (fun b hb => (hrow3.out.lt b (by simpa using hb)).1)); have y6 := keep hb9 x6; have y5 := keep hb9 x5; replace hb9 := Lib.hid hb9; replace hrow9 := Lib.hid hrow9; replace hu9 := Lib.hid hu9; replace hat9 := Lib.hid hat9)
          have hA1 : Below w9.heap.size w9 (w9.alloc (.cells #[.string hi] 9)) := (Below.refl _ _).alloc (Nat.le_refl _) _
          have hr5 := Lib.hid (hrow9.out.below hA1)
          have hs5 := Lib.hid (SrcOf.one w9 9 [.string hi] (by intro y hy; simp at hy; subst hy; rfl))
          have hbel := Lib.hid (hb9.out.trans (hA1.mono hb9.out.size))
          have hbb5 := Lib.hid hbel.out.size
          have hr6 : Hid (Row w.heap.size 9 1 scell (w9.alloc (.cells #[.string hi] 9)) (.slice a' (LL ++ K).length c') (LL ++ K)) := Lib.hid (by rw [List.length_append]; exact hr5.out)
          obtain ⟨MM, hMM⟩ : ∃ MM, MM = LL ++ K := ⟨_, rfl⟩
          have hml : LL.length + K.length = MM.length := by rw [hMM, List.length_append]
          rw [← hMM] at hr6 hlm2 hly2
          rw [hml]
          replace hMM := Lib.hid hMM
          replace hml := Lib.hid hml
          clear hA1 hr5
          go_wp2_with (at_builtin; refine wpList_append_row (f := scell) (M := [hi]) _ rfl _ _ 87 rfl w.heap.size 9 i0 (.string ⟨#[]⟩) 1 16 Try.underlying87 hi0 hzA hzB hzC rfl (by decide) (.slice a' MM.length c') MM rfl hr6.out _ rfl hs5.out hlm2.out hly2.out hbb5.out ?_; intro a2 c2' w10 hrow10 hu10 hat10; replace hrow10 := Lib.hid hrow10; replace hu10 := Lib.hid hu10; replace hat10 := Lib.hid hat10)
          go_roundg B.length
          case rel =>
            refine ⟨A ++ [((h1, h2), (⟨lf, K, V, H, hi, true, nx⟩ : BN))], B, rfl, by rw [hAB.out]; simp, ?_, ?_, hbel.out.trans (hu10.out.below hbel.out.size (fun b hb => (hr6.out.lt b (by simpa using hb)).1))⟩
            · rw [List.length_append, ← hia.out]; go_num
            · have e : wants (A ++ [((h1, h2), (⟨lf, K, V, H, hi, true, nx⟩ : BN))]) = MM ++ [hi] := by rw [hLL2.out, hMM.out]; simp
              rw [e]
              exact hrow10.out
          case measure => simp
end
end Go.Proofs.Ytlhobbfncjjeaaa
