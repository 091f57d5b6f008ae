/- The walk of the law ArenaHandles: for any size and any acts it returns true. -/
import Derived.Test.YtoknkedmpdcinaaArenaHc
import Derived.Deep.LoopGhost
import Derived.Deep.DeepCutAuto
import Derived.Test.YtoknkedmpdcinaaOwnStep
import Derived.RegionTactic
namespace Go.Proofs.Ytoknkedmpdcinaa
open Go.RowKit
set_option maxRecDepth 100000 in
set_option maxHeartbeats 4000000 in
theorem handlesLaw_walk (a : Int) (s : Option Addr) (len cap : Nat) (rows : List (List Value)) (w : World) (ha : (Lit.int .u8 a).wf = true) (hr : IsFlat actK w s len rows) :
    Calls Try.prog 4 #[.int .u8 a, .slice s len cap] w fun e w' => e = .returned (.bool true) ∧ Below w.heap.size w w' := by
  obtain ⟨a0, a1⟩ := bounds_u8 ha
  clear ha
  have hlm : len ≤ maxLen := by
    rcases hr with ⟨h0, _⟩ | ⟨_, _, _, h1, _⟩
    · subst h0; exact Nat.zero_le _
    · exact h1
  obtain ⟨m, hm, hm'⟩ : ∃ m : Nat, a % 64 = m ∧ m < 64 := ⟨(a % 64).toNat, by omega, by omega⟩
  go_enter Try.func4, Try.ntmps4
  go_wp2_with fail
  refine (awake2_any _).mono ?_
  rintro e w1 ⟨rfl, hb1⟩
  have hr1 := hr.below hb1
  have HB1 := Lib.hid hb1
  clear hb1 hr
  have hgr := great_any s len cap rows w1 hr1 hlm
  replace hr1 := Lib.hid hr1
  replace hgr := Lib.hid hgr
  unfold maxLen at hlm
  go_wp2_with fail
  refine hgr.out.mono ?_
  clear hgr
  rintro e w2 ⟨rfl | ⟨rfl, hl⟩, hb2⟩
  · go_wp2_with fail
    go_ret
    exact ⟨rfl, HB1.out.trans (hb2.mono HB1.out.size)⟩
  have hr2 := Lib.hid (hr1.out.below hb2)
  have HB2 := Lib.hid (HB1.out.trans (hb2.mono HB1.out.size))
  clear hb2 hr1 HB1
  go_wp2_with fail
  rw [show (1 : Int) + (m : Int) = ((1 + m : Nat) : Int) by omega]
  obtain ⟨n, hn, hn1, hn2⟩ : ∃ n : Nat, 1 + m = n ∧ 1 ≤ n ∧ n ≤ 64 := ⟨1 + m, rfl, by omega, by omega⟩
  rw [hn]
  clear a0 a1
  refine (arNewPool_some n w2 hn1 (by omega)).mono ?_
  rintro e w3 ⟨p, g, f, rfl, hB3, hp1, hg1, hf1, hP3⟩
  have hpl := heap_lt hP3.2.2.2.2.2.1
  have hgl := heap_lt hP3.2.2.2.2.2.2.1
  have hfl := heap_lt hP3.2.2.2.2.2.2.2
  have n1 := hP3.2.2.1
  have n2 := hP3.2.2.2.1
  have n3 := hP3.2.2.2.2.1
  have HP3 := Lib.hid hP3
  have HB3 := Lib.hid hB3
  clear hP3 hB3
  go_wp2_with fail
  refine (AStr.gNew (some ⟨p, 0, none⟩) [p, g, f, w3.heap.size + 1, w3.heap.size, w3.heap.size + 3, w3.heap.size + 2] w3).mono ?_
  rintro e w4 ⟨rfl, hB4, hs4, hA4⟩
  have HB4 := Lib.hid hB4
  have HA4 := Lib.hid hA4
  clear hB4 hA4
  go_wp2_with fail
  refine (AStr.gNew (some ⟨p, 0, none⟩) [p, g, f, w3.heap.size + 1, w3.heap.size, w3.heap.size + 3, w3.heap.size + 2] w4).mono ?_
  rintro e w5 ⟨rfl, hB5, hs5, hA5⟩
  rw [show w4.heap.size + 1 = w3.heap.size + 3 by omega, show w4.heap.size = w3.heap.size + 2 by omega] at hA5
  rw [show w4.heap.size + 1 = w3.heap.size + 3 by omega]
  have hK := bl7_of w2 (w3.heap.size + 4) p g f (w3.heap.size + 1) w3.heap.size (w3.heap.size + 3) (w3.heap.size + 2) hp1 hg1 hf1 n1 n2 n3 hpl hgl hfl (by omega) (by omega) (by omega) (by omega)
  have hH : HW w2 w5 (w3.heap.size + 4) [p, g, f, w3.heap.size + 1, w3.heap.size, w3.heap.size + 3, w3.heap.size + 2] p g f (w3.heap.size + 1) w3.heap.size (w3.heap.size + 3) (w3.heap.size + 2) (.slice none 0 0) (.slice none 0 0) [] [] (List.replicate n 1) (List.replicate n true) [] [] 0 0 := by
    have hsz := HB3.out.size
    exact ⟨(HB3.out.trans (HB4.out.mono hsz)).trans (hB5.mono (by omega)), by omega, (HP3.out.below HB4.out).below hB5, ArenaG.below HA4.out hB5, hA5, ⟨by simp [kcells], .inl ⟨rfl, rfl⟩⟩, ⟨by simp [kcells], .inl ⟨rfl, rfl⟩⟩, by simp [Value.ownBlock], by simp, by simp⟩
  have hPl : Plain n 0 [] [] (List.replicate n 1) (List.replicate n true) [] [] := by
    refine ⟨by simp, by simp, by simp, by simp, by simp, by simp, by simp, by simp, ⟨by simp, by simp⟩, ⟨by simp, by simp⟩, by simp, fun k v hk => ?_⟩
    rw [List.getElem?_replicate] at hk
    split at hk
    · injection hk with hk; omega
    · cases hk
  replace hH := Lib.hid hH
  replace hPl := Lib.hid hPl
  replace hK := Lib.hid hK
  clear HB3 HB4 HA4 HP3 hB5 hA5 n1 n2 n3 hp1 hg1 hf1 hpl hgl hfl
  go_wp2_with fail
  generalize [p, g, f, w3.heap.size + 1, w3.heap.size, w3.heap.size + 3, w3.heap.size + 2] = R at hH hK
  generalize w3.heap.size + 4 = base at hH hK
  generalize w3.heap.size + 3 = ca at hH hK ⊢
  generalize w3.heap.size + 2 = cm at hH hK ⊢
  generalize w3.heap.size + 1 = aa at hH hK ⊢
  generalize w3.heap.size = am at hH hK
  have HH : Hid (HP w2 w5 base R p g f aa am ca cm (.slice none 0 0) (.slice none 0 0) [] [] n 0 [] []) := Lib.hid ⟨_, _, [], [], 0, 0, hH.out, hPl.out⟩
  clear hH hPl hs4 hs5
  go_loopg [10, 11, 12] len (fun gk vo vg i wr => ∃ (k : Nat) (on gone : List HEnt), gk = len - k ∧ k ≤ len ∧ i = .int .i64 k ∧ gone.length ≤ k ∧ HP w2 wr base R p g f aa am ca cm vo vg on gone n k on gone)
  case atStart => exact ⟨0, [], [], rfl, Nat.zero_le _, rfl, Nat.le_refl _, HH.out⟩
  case round =>
    obtain ⟨k, on, gone, rfl, hk, rfl, hgl, hI⟩ := hrel
    clear HH
    replace hI := Lib.hid hI
    by_cases hlt : k < len
    · obtain ⟨b, off, rfl, hbw, dó, inn, x, sl, gn, ago, hact, hwf, hinn, hxs, hsl, hgn, hago⟩ := act_row hr2.out k hlt
      obtain ⟨hoo, hog, hbel, hsiz⟩ := hI.out.own
      have hon : on.length ≤ 64 := by
        obtain ⟨_, _, _, _, _, _, _, hP⟩ := hI.out
        have := hP.cnt
        omega
      have HA := Lib.hid hact
      obtain ⟨c0, c1, c2, c3, c4, c5⟩ := hact
      replace c0 := keep hbel c0
      replace c1 := keep hbel c1
      replace c2 := keep hbel c2
      replace c5 := keep hbel c5
      clear c3 c4
      obtain ⟨q, hq, hq2⟩ : ∃ q : Nat, inn % 2 = q ∧ (q = 0 ∨ q = 1) := ⟨(inn % 2).toNat, by omega, by omega⟩
      have hr2' := hr2
      clear hr2
      go_upto_if 55 with fail
      go_cut [13] (fun v wx => v = .pointer (some ⟨sel q aa ca, 0, none⟩) ∧ wx = wr)
      case first =>
        rcases hq2 with rfl | rfl
        · go_wp2_with fail
          go_meet
          exact ⟨rfl, rfl⟩
        · go_wp2_with fail
          go_meet
          exact ⟨rfl, rfl⟩
      case rest =>
        obtain ⟨rfl, rfl⟩ := hcut
        clear hoo hog hbel hsiz
        go_upto_if 62 with fail
        go_cut [10, 11] (fun vo' vg' wx => ∃ (on' gone' : List HEnt), gone'.length ≤ k + 1 ∧ HP w2 wx base R p g f aa am ca cm vo' vg' on' gone' n (k + 1) on' gone')
        case first =>
          obtain ⟨hoo, hog, hbel, hsiz⟩ := hI.out.own
          replace hbel := Lib.hid hbel
          obtain ⟨ao, co, hvo, hro⟩ := hoo.rows
          obtain ⟨ag, cg, hvg, hrg⟩ := hog.rows
          subst hvo hvg
          replace hro := Lib.hid hro
          replace hrg := Lib.hid hrg
          clear hoo hog
          by_cases hd : (dó == 0) = true
          ·
            have hal := Lib.hid (hp_alloc q hq2 x w2 wc base R p g f aa am ca cm _ _ on gone n k hK.out hI.out)
            go_wp2_with fail
            refine hal.out.mono ?_
            clear hal
            rintro e w6 (⟨hlt6, s6, g6, rfl, hI6, hn6⟩ | ⟨hge6, rfl, hI6⟩)
            · replace hI6 := Lib.hid hI6
              replace hn6 := Lib.hid hn6
              have hb7 := (Below.refl w6.heap.size w6).alloc (Nat.le_refl _) (.cells #[.int .i64 0, .int .u64 0] 40)
              have hbase6 : base ≤ w6.heap.size := hI6.out.own.2.2.2
              go_wp2_with fail
              have d0 : (w6.alloc (.cells #[.int .i64 s6, .int .u64 g6] 40)).cell? ⟨w6.heap.size, 0, none⟩ = some (.int .i64 s6) := by rw [cell_of_heap (heap_alloc_new _ _)]; rfl
              have d1 : (w6.alloc (.cells #[.int .i64 s6, .int .u64 g6] 40)).cell? ⟨w6.heap.size, 1, none⟩ = some (.int .u64 g6) := by rw [cell_of_heap (heap_alloc_new _ _)]; rfl
              have hI7 := Lib.hid (hI6.out.below ((Below.refl w6.heap.size w6).alloc (Nat.le_refl _) (.cells #[.int .i64 s6, .int .u64 g6] 40)))
              have hbl : Below w2.heap.size w2 w6 := hI6.out.own.2.2.1
              replace hbl := Lib.hid (hbl.trans (((Below.refl w6.heap.size w6).alloc (Nat.le_refl _) (.cells #[.int .i64 s6, .int .u64 g6] 40)).mono hbl.size))
              have c2' := keep hbl.out HA.out.2.2.1
              clear hI6 hb7 c0 c1 c2 c5
              generalize w6.alloc (.cells #[.int .i64 s6, .int .u64 g6] 40) = w7 at *
              generalize w6.heap.size = hb at *
              have hhb : hb < w7.heap.size := block_lt_of_cell d0
              go_loopg [17] gone.length (fun gk j wr => ∃ m : Nat, gk = gone.length - m ∧ m ≤ gone.length ∧ j = .int .i64 m ∧ Below w7.heap.size w7 wr)
              case atStart => exact ⟨0, rfl, Nat.zero_le _, rfl, Below.refl _ _⟩
              case round =>
                obtain ⟨m', rfl, hm', rfl, hB⟩ := hrel
                have d0' := keep hB d0
                have d1' := keep hB d1
                replace hB := Lib.hid hB
                by_cases hlt' : m' < gone.length
                ·
                  have hx : gone[m']? = some gone[m'] := List.getElem?_eq_getElem hlt'
                  generalize hxe : gone[m'] = y at hx
                  clear hxe
                  have hny := hn6.out y (List.mem_of_getElem? hx)
                  obtain ⟨_, hog7, _⟩ := hI7.out.own
                  obtain ⟨ag2, cg2, he2, hrg2⟩ := hog7.rows
                  obtain ⟨b', hab, hbw', hat⟩ := hrg2 m' y hx
                  obtain ⟨rfl, rfl⟩ : ag = ag2 ∧ cg = cg2 := by injection he2 with h1 h2 h3; exact ⟨h1, h3⟩
                  subst hab
                  obtain ⟨f0, f1, _, _⟩ := hat.stay hB.out
                  clear he2 hrg2 hat hrg hog7 c2' d0 d1
                  by_cases hs : ((y.slot : Int) == (s6 : Int)) = true
                  · have hs1 : y.slot = s6 := by have := eq_of_beq hs; omega
                    have hg : (y.gen == g6) = false := beq_eq_false_iff_ne.2 fun hh => hny ⟨hs1, hh⟩
                    clear hny hs1
                    go_wp2_with fail
                    go_quiet (fail)
                    go_wp2_with fail
                    go_roundg (gone.length - (m' + 1))
                    case measure => omega
                    case rel => exact ⟨m' + 1, by omega, by omega, by go_num, below_drewN hB.out _⟩
                  · replace hs : ((y.slot : Int) == (s6 : Int)) = false := by simpa using hs
                    clear hny
                    go_wp2_with fail
                    go_quiet (fail)
                    go_wp2_with fail
                    go_roundg (gone.length - (m' + 1))
                    case measure => omega
                    case rel => exact ⟨m' + 1, by omega, by omega, by go_num, below_drewN hB.out _⟩
                · obtain rfl : m' = gone.length := by omega
                  go_upto_region 29 with fail
                  have d0 := d0'
                  have d1 := d1'
                  have hI8 := hI7.out.below hB.out
                  obtain ⟨hown8, _, hbel8, hsiz8⟩ := hI8.own
                  have e2 := keep hbel8 HA.out.2.2.1
                  have hlen : on.length + 1 ≤ maxLen := by unfold maxLen; omega
                  have hby : (on.length + 1) * 40 ≤ 140737488355328 := by omega
                  obtain ⟨i0, hi0, hz0, hz1, hz2⟩ := info_parts (show (Try.prog.info? 46).map (fun i => (i.zero, i.size, i.bytes)) = some (some (.agg #[.int .i64 0, .int .u64 0, .int .i64 0, .string ⟨#[]⟩]), 4, 40) by kernel_rfl)
                  have hB9 : Below wr.heap.size wr (wr.drew.alloc (.cells #[.int .i64 s6, .int .u64 g6, .int .i64 q, .string x] 46)) := (Below.refl _ _).drew.alloc (Nat.le_refl _) _
                  have hI9 := Lib.hid (hI8.below hB9)
                  have hown9 := Lib.hid hI9.out.own.1
                  have hsz9 : base ≤ (wr.drew.alloc (.cells #[.int .i64 s6, .int .u64 g6, .int .i64 q, .string x] 46)).heap.size := hI9.out.own.2.2.2
                  have hnew9 := Lib.hid (cell_four_new wr.drew 46 (.int .i64 s6) (.int .u64 g6) (.int .i64 q) (.string x))
                  replace hsz9 := Lib.hid hsz9
                  clear hown8 hbel8 hsiz8 hI8 hB9
                  have hone : ∀ u ∈ [Value.int .i64 s6, .int .u64 g6, .int .i64 q, .string x], u.oneCell' = true := by
                    intro u hu
                    simp at hu
                    rcases hu with rfl | rfl | rfl | rfl <;> rfl
                  replace hone := Lib.hid hone
                  go_region_law (refine step_append_own_at rfl (.tmp 95) (.tmp 104) 37 rfl base 46 i0 (.agg #[.int .i64 0, .int .u64 0, .int .i64 0, .string ⟨#[]⟩]) 4 40 Try.underlying37 hi0 hz0 hz1 hz2 rfl (by decide) (.slice ao on.length co) on.length (kcells on) (by simp [Act.eval]) hown9.out ⟨wr.drew.heap.size, 0, none⟩ 1 1 [.int .i64 s6, .int .u64 g6, .int .i64 q, .string x] (by simp [Act.eval]) rfl hnew9.out hone.out hlen hby hsz9.out ?_; intro v' w9 hown' hgr _ hat')
                  all_goals
                    have hI10 := hI9.out.appOn hK.out hgr (on' := on ++ [⟨s6, g6, q, x⟩]) (vo' := v') (by unfold HOwn; rw [kcells_snoc, List.length_append]; exact hown') (by simpa using hat')
                    replace hI10 := Lib.hid hI10
                    clear hown' hgr hat'
                    go_wp2_with fail
                    go_meet
                    exact ⟨on ++ [⟨s6, g6, q, x⟩], gone, by omega, hI10.out⟩
            · replace hI6 := Lib.hid hI6
              have hng : decide (on.length < n) = false := by simp; omega
              go_wp2_with fail
              go_meet
              exact ⟨on, gone, by omega, hI6.out.below ((Below.refl _ _).alloc (Nat.le_refl _) _) |>.up⟩
          · replace hd : (dó == 0) = false := by simpa using hd
            by_cases hon0 : 0 < on.length
            · obtain ⟨m2, hm2, hm2'⟩ : ∃ m2 : Nat, ago % (on.length : Int) = m2 ∧ m2 < on.length := by
                have h1 := Int.emod_nonneg ago (b := (on.length : Int)) (by omega)
                have h2 := Int.emod_lt_of_pos ago (b := (on.length : Int)) (by omega)
                exact ⟨(ago % (on.length : Int)).toNat, by omega, by omega⟩
              obtain ⟨y, hx⟩ : ∃ y, on[m2]? = some y := ⟨on[m2], List.getElem?_eq_getElem hm2'⟩
              obtain ⟨b', hab, hbw', hat⟩ := hro.out m2 y hx
              subst hab
              obtain ⟨l, r, hsp, hll⟩ : ∃ l r, on = l ++ y :: r ∧ l.length = m2 := by
                refine ⟨on.take m2, on.drop (m2 + 1), ?_, by simp; omega⟩
                have := List.getElem?_eq_some_iff.1 hx
                obtain ⟨h1, h2⟩ := this
                rw [← h2, ← List.drop_eq_getElem_cons h1, List.take_append_drop]
              have HM2 := Lib.hid hm2
              clear hm2
              have HSP := Lib.hid hsp
              have HLL := Lib.hid hll
              have HX := Lib.hid hx
              obtain ⟨f0, f1, f2, f3⟩ := hat
              have hst := hK.out
              have hId := hI.out.below (Below.refl wc.heap.size wc).drew
              by_cases hyi : y.inn = q
              · have hrl := Lib.hid (hp_rel_yes q hq2 l r y w2 wc.drew base R p g f aa am ca cm b' co _ on gone n k m2 (by omega) hK.out hId hsp hx hyi)
                have hyb : ((y.inn : Int) == (q : Int)) = true := by rw [hyi]; simp
                have HYI := Lib.hid hyi
                clear hst hId hsp hll hx hyi hro hrg c0 c1 c2
                go_upto_region 32 with fail
                rw [HM2.out]
                go_cut [132] (fun v wx => v = .bool false ∧ HAt wx b' m2 y ∧ HP w2 wx base R p g f aa am ca cm (.slice (some ⟨b', 0, none⟩) on.length co) (.slice ag gone.length cg) on gone n (k + 1) (l ++ r) (gone ++ [y]))
                case first =>
                  go_region_with ((go_at_call 14; refine hrl.out.mono ?_; rintro e w6 ⟨rfl, ⟨g0, g1, g2, g3⟩, hI6⟩; replace hI6 := Lib.hid hI6))
                  all_goals
                    go_wp2_with fail
                    go_meet
                    exact ⟨rfl, ⟨g0, g1, g2, g3⟩, hI6.out⟩
                case rest =>
                  clear hrl hI f0 f1 f2 f3 hsiz hbel
                  obtain ⟨rfl, ⟨f0, f1, f2, f3⟩, hI6⟩ := hcut
                  have hown6 : wc.ownsRow base 46 4 (.slice ag gone.length cg) gone.length (kcells gone) := hI6.own.2.1
                  have hsz6 : base ≤ wc.heap.size := hI6.own.2.2.2
                  have hlen : gone.length + 1 ≤ maxLen := by unfold maxLen; omega
                  have hby : (gone.length + 1) * 40 ≤ 140737488355328 := by omega
                  obtain ⟨i0, hi0, hz0, hz1, hz2⟩ := info_parts (show (Try.prog.info? 46).map (fun i => (i.zero, i.size, i.bytes)) = some (some (.agg #[.int .i64 0, .int .u64 0, .int .i64 0, .string ⟨#[]⟩]), 4, 40) by kernel_rfl)
                  have hI7 := Lib.hid (hI6.below ((Below.refl wc.heap.size wc).alloc (Nat.le_refl _) (.cells #[.int .i64 y.slot, .int .u64 y.gen, .int .i64 y.inn, .string y.s] 46)))
                  clear hI6
                  go_wp2_with (first | (at_builtin; refine wpList_append_own_at _ rfl _ _ 37 rfl base 46 i0 (.agg #[.int .i64 0, .int .u64 0, .int .i64 0, .string ⟨#[]⟩]) 4 40 Try.underlying37 hi0 hz0 hz1 hz2 rfl (by decide) _ _ _ rfl (hown6.alloc _) ⟨wc.heap.size, 0, none⟩ 1 1 [.int .i64 y.slot, .int .u64 y.gen, .int .i64 y.inn, .string y.s] rfl rfl ?c1 ?c2 hlen hby ?c5 ?_))
                  case c1 => exact cell_four_new _ _ _ _ _ _
                  case c2 =>
                    intro u hu
                    simp at hu
                    rcases hu with rfl | rfl | rfl | rfl <;> rfl
                  case c5 => simp; omega
                  intro vg' w8 hown8 hgr8 _ hat8
                  have hI8 := hI7.out.appGone hK.out hgr8 (gone' := gone ++ [y]) (vg' := vg') (by unfold HOwn; rw [kcells_snoc, List.length_append]; exact hown8) (by simpa using hat8)
                  replace hI8 := Lib.hid hI8
                  clear hown8 hgr8 hat8 hI7 hown6 f0 f1 f2 f3
                  go_upto_region 36 with fail
                  have hsub0 : (0 : Int) ≤ (m2 : Int) + 1 := by omega
                  have hsub1 : ((m2 : Int) + 1) ≤ (on.length : Int) := by omega
                  have hcap : on.length ≤ co := by
                    rcases hI8.out.own.1.cases with ⟨h, _⟩ | ⟨_, _, h, _, _, _, h5, _⟩
                    · cases h
                    · injection h with _ _ h3
                      omega
                  have hm2co : m2 ≤ co := by omega
                  have hm2co1 : m2 + 1 ≤ on.length := by omega
                  have hsub3 : ((m2 : Int) + 1).toNat = m2 + 1 := by omega
                  have HW1 := Lib.hid (IntWalk.i64_in ((m2 : Int) + 1) (by omega))
                  have hon8 : HOwn w8 base (.slice (some ⟨b', 0, none⟩) on.length co) (l ++ y :: r) := by
                    have := hI8.out.own.1
                    have hh := HSP.out
                    rw [hh] at this ⊢
                    exact this
                  have hsz8 : base ≤ w8.heap.size := hI8.out.own.2.2.2
                  have hb8 : b' < w8.heap.size := by
                    rcases hon8.cases with ⟨h, _⟩ | ⟨_, _, h, _, h2, _⟩
                    · cases h
                    · injection h with h
                      injection h with h
                      injection h with h
                      rw [h]
                      exact h2
                  obtain ⟨Ad, hAd, hAb, hAc⟩ := tail_cells hon8 HLL.out hcap
                  have hrl : r.length = on.length - (m2 + 1) := by
                    have h1 := congrArg List.length HSP.out
                    have h2 := HLL.out
                    simp only [List.length_append, List.length_cons] at h1
                    omega
                  have HRL := Lib.hid hrl
                  replace hAc := Lib.hid hAc
                  have hHc := Lib.hid (head_cells hon8)
                  have hB8 := Lib.hid ((Below.refl w8.heap.size w8).drew.alloc (Nat.le_refl _) (.cells #[] 46))
                  have he8 := Lib.hid (own_empty w8.drew base 46 4 hsz8)
                  have hlk := Lib.hid (show (kcells l).length = m2 * 4 by rw [kcells_length, HLL.out])
                  have hlr := Lib.hid (show (kcells r).length = (on.length - (m2 + 1)) * 4 by rw [kcells_length, hrl])
                  have hk1 := Lib.hid (kcells_one l)
                  have hk2 := Lib.hid (kcells_one r)
                  have hcl : ∀ j u, (kcells l)[j]? = some u → (w8.drew.alloc (.cells #[] 46)).cell? ((⟨b', 0, none⟩ : Addr).add j) = some u := by
                    intro j u hj
                    have := hHc.out j u hj
                    rw [hB8.out.cell (by rw [Addr.add_lit]; exact hb8)]
                    exact this
                  replace hcl := Lib.hid hcl
                  have hsz9 : base ≤ (w8.drew.alloc (.cells #[] 46)).heap.size := Nat.le_trans hsz8 hB8.out.size
                  replace hsz9 := Lib.hid hsz9
                  have hm63 : 0 + m2 ≤ maxLen := by unfold maxLen; omega
                  have hmby : (0 + m2) * 40 ≤ 140737488355328 := by omega
                  have hr63 : m2 + (on.length - (m2 + 1)) ≤ maxLen := by unfold maxLen; omega
                  have hrby : (m2 + (on.length - (m2 + 1))) * 40 ≤ 140737488355328 := by omega
                  clear hon8 hrl hlen hby
                  replace hAb := Lib.hid hAb
                  replace hAd := Lib.hid hAd
                  have hW1 := HW1.out
                  go_region_law (first
                    | (refine step_append_own_at rfl (.tmp 147) (.tmp 150) 37 rfl base 46 i0 (.agg #[.int .i64 0, .int .u64 0, .int .i64 0, .string ⟨#[]⟩]) 4 40 Try.underlying37 hi0 hz0 hz1 hz2 rfl (by decide) (.slice (some ⟨w8.heap.size, 0, none⟩) 0 0) 0 [] (by simp [Act.eval]) he8.out ⟨b', 0, none⟩ m2 co (kcells l) (by simp [Act.eval]) hlk.out hcl.out hk1.out hm63 hmby hsz9.out ?_; intro v9 w9 hown9 hgr9 _ hat9; replace hown9 := Lib.hid (own_zero hown9); replace hgr9 := Lib.hid hgr9; replace hat9 := Lib.hid hat9)
                    | (refine step_append_own_at rfl (.tmp 151) (.tmp 155) 37 rfl base 46 i0 (.agg #[.int .i64 0, .int .u64 0, .int .i64 0, .string ⟨#[]⟩]) 4 40 Try.underlying37 hi0 hz0 hz1 hz2 rfl (by decide) v9 m2 (kcells l) (by simp [Act.eval]) hown9.out Ad (on.length - (m2 + 1)) (co - (m2 + 1)) (kcells r) (by simp [Act.eval, hAd.out]) hlr.out (cells_grown hgr9.out hB8.out hAc.out hAb.out hb8) hk2.out hr63 hrby (Nat.le_trans hsz9.out hgr9.out.size) ?_; intro v10 w10 hown10 hgr10 _ hat10))
                  all_goals
                    obtain ⟨hBf, hbn⟩ := fresh_end hB8.out hgr9.out hat9.out hgr10 hat10
                    have hI10 := hI8.out.fresh hBf (on' := l ++ r) (vo' := v10) (by unfold HOwn; rw [kcells_append, List.length_append, HLL.out, HRL.out]; exact hown10) hbn
                    replace hI10 := Lib.hid hI10
                    clear hown10 hgr10 hat10 hBf hbn hW1 hb8
                    go_wp2_with fail
                    all_goals
                      go_meet
                      exact ⟨l ++ r, gone ++ [y], by simp; omega, hI10.out⟩
              · have hrl := Lib.hid (hp_rel_no q hq2 l r y w2 wc.drew base R p g f aa am ca cm b' co _ on gone n k m2 (by omega) hK.out hId hsp hx hyi)
                have hyb : ((y.inn : Int) == (q : Int)) = false := beq_eq_false_iff_ne.2 (by omega)
                clear hst hId hsp hll hx hyi hro hrg c0 c1 c2
                go_upto_region 32 with fail
                rw [HM2.out]
                go_cut [132] (fun v wx => v = .bool false ∧ HAt wx b' m2 y ∧ HP w2 wx base R p g f aa am ca cm (.slice (some ⟨b', 0, none⟩) on.length co) (.slice ag gone.length cg) on gone n k on gone)
                case first =>
                  go_region_with ((go_at_call 14; refine hrl.out.mono ?_; rintro e w6 ⟨rfl, ⟨g0, g1, g2, g3⟩, hI6⟩; replace hI6 := Lib.hid hI6))
                  all_goals
                    go_wp2_with fail
                    go_meet
                    exact ⟨rfl, ⟨g0, g1, g2, g3⟩, hI6.out⟩
                case rest =>
                  clear hrl hI f0 f1 f2 f3 hsiz hbel
                  obtain ⟨rfl, ⟨f0, f1, f2, f3⟩, hI6⟩ := hcut
                  replace hI6 := Lib.hid hI6
                  go_wp2_with fail
                  go_meet
                  exact ⟨on, gone, by omega, hI6.out.up⟩
            · obtain rfl : on = [] := by cases on with | nil => rfl | cons a l => simp at hon0
              go_wp2_with fail
              go_meet
              exact ⟨[], gone, by omega, hI.out.up⟩
        case rest =>
          clear hI hbw hwf hinn hxs hsl hgn hago hon hq HA hq2
          obtain ⟨on', gone', hgl', hI'⟩ := hcut
          obtain ⟨gens, free, LA, LC, cA, cC, hH, hP⟩ := hI'
          have hcn := hP.cnt
          have hnm := hP.num
          have hst := Lib.hid (stands_any ⟨aa, am, LA, cA⟩ ⟨ca, cm, LC, cC⟩ R (some ⟨p, 0, none⟩) base _ _ on' gone' wc hH.fst hH.snd hH.hon hH.hgone hP.std (by omega) (by omega))
          obtain ⟨ao, co, hvo, _⟩ := hH.hon.rows
          subst hvo
          replace hH := Lib.hid hH
          replace hP := Lib.hid hP
          go_wp2_with fail
          refine hst.out.mono ?_
          clear hst
          rintro e w9 ⟨rfl, hb9⟩
          have hH9 := Lib.hid (hH.out.below hb9)
          clear hb9 hH
          go_wp2_with fail
          refine (pFree_any p g f gens free w9 hH9.out.pool).mono ?_
          rintro e w9' ⟨rfl, rfl⟩
          have hbc : (((free.count true : Nat) : Int) != (n : Int) - (on'.length : Int)) = false := by rw [bne_eq_false_iff_eq]; omega
          go_wp2_with fail
          refine (AStr.gLive ⟨aa, am, LA, cA⟩ R (some ⟨p, 0, none⟩) w9 hH9.out.fst).mono ?_
          rintro e w10 ⟨rfl, hb10⟩
          have hH10 := Lib.hid (hH9.out.below hb10)
          clear hb10 hH9
          go_wp2_with fail
          refine (AStr.gLive ⟨ca, cm, LC, cC⟩ R (some ⟨p, 0, none⟩) w10 hH10.out.snd).mono ?_
          rintro e w11 ⟨rfl, hb11⟩
          have hH11 := Lib.hid (hH10.out.below hb11)
          clear hb11 hH10
          have hbl : ((LA.length : Int) + (LC.length : Int) != (on'.length : Int)) = false := by rw [bne_eq_false_iff_eq]; omega
          have hl1 : (LA.length : Int) ≤ 64 := by omega
          have hl2 : (LC.length : Int) ≤ 64 := by omega
          go_wp2_with fail
          go_roundg (len - (k + 1))
          case measure => omega
          case rel => exact ⟨k + 1, on', gone', rfl, by omega, by go_num, by omega, ⟨gens, free, LA, LC, cA, cC, hH11.out, hP.out⟩⟩
    ·
      have hget := Lib.hid hI.out.nil
      have hB := Lib.hid (hI.out.own.2.2.1)
      clear hI
      go_wp2_with fail
      refine hget.out.mono ?_
      clear hget
      rintro e w6 ⟨rfl, hb6⟩
      have hB6 := Lib.hid (hB.out.trans (hb6.mono hB.out.size))
      clear hb6 hB
      go_wp2_with fail
      go_ret
      exact ⟨rfl, HB2.out.trans (hB6.out.mono HB2.out.size)⟩
end Go.Proofs.Ytoknkedmpdcinaa
