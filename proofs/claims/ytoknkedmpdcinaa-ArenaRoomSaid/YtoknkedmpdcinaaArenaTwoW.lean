/- The walk of the helper 'two' of the arena's laws: it answers true, and all stands as it must. -/
import Derived.Test.YtoknkedmpdcinaaArenaTwo
import Derived.Deep.LoopGhost
import Derived.Deep.DeepCutAuto
namespace Go.Proofs.Ytoknkedmpdcinaa
open Go.RowKit
theorem blk_of (w0 : World) (base p g f ms aa am ba bm : Nat) (h1 : w0.heap.size ≤ p) (h2 : w0.heap.size ≤ g) (h3 : w0.heap.size ≤ f) (n1 : p ≠ g) (n2 : p ≠ f) (n3 : g ≠ f) (hp : p < am) (hg : g < am) (hf : f < am) (h4 : am < aa) (h5 : aa < bm) (h6 : bm < ba) (h7 : ba < ms) (h8 : ms < base) :
    Blk w0 base [p, g, f, ms, aa, am, ba, bm] p g f ms aa am ba bm := by
  refine ⟨rfl, ?_, ?_⟩
  · refine List.nodup_cons.2 ⟨by simp; omega, List.nodup_cons.2 ⟨by simp; omega, List.nodup_cons.2 ⟨by simp; omega, List.nodup_cons.2 ⟨by simp; omega, List.nodup_cons.2 ⟨by simp; omega, List.nodup_cons.2 ⟨by simp; omega, List.nodup_cons.2 ⟨by simp; omega, by simp⟩⟩⟩⟩⟩⟩⟩
  · intro r hr
    simp only [List.mem_cons, List.not_mem_nil, or_false] at hr
    rcases hr with h | h | h | h | h | h | h | h <;> omega
set_option maxRecDepth 100000 in
set_option maxHeartbeats 4000000 in
theorem two_walk (n : Nat) (s : Option Addr) (len cap : Nat) (rows : List (List Value)) (w : World) (hr : IsFlat [.inl .u8] w s len rows) (hl : len ≤ 300) (h1 : 1 ≤ n) (h2 : n ≤ 64) :
    Calls Try.prog 9 #[.int .i64 n, .slice s len cap] w fun e w' => ∃ base R p g f ms aa am ba bm tv hs gens free LA LB cA cB S cs, e = .returned (.tuple #[.pointer (some ⟨p, 0, none⟩), .pointer (some ⟨aa, 0, none⟩), .pointer (some ⟨ba, 0, none⟩), .map (some ms), .bool true]) ∧
      Blk w base R p g f ms aa am ba bm ∧ TwoI w w' n base R p g f ms aa am ba bm tv hs gens free LA LB cA cB S cs := by
  have hro := Lib.hid (byte_row hr)
  clear hr
  have hmm := @run_makeMap Try.prog
  go_enter Try.func9, Try.ntmps9
  go_wp2_with fail
  refine (arNewPool_some n w h1 (by omega)).mono ?_
  rintro e w1 ⟨p, g, f, rfl, hB1, hp1, hg1, hf1, hP1⟩
  have hpl := heap_lt hP1.2.2.2.2.2.1
  have hgl := heap_lt hP1.2.2.2.2.2.2.1
  have hfl := heap_lt hP1.2.2.2.2.2.2.2
  have n1 := hP1.2.2.1
  have n2 := hP1.2.2.2.1
  have n3 := hP1.2.2.2.2.1
  have HP1 := Lib.hid hP1
  have HB1 := Lib.hid hB1
  clear hP1 hB1
  go_wp2_with fail
  refine (AInt.gNew (some ⟨p, 0, none⟩) [p, g, f, w1.heap.size + 4, w1.heap.size + 1, w1.heap.size, w1.heap.size + 3, w1.heap.size + 2] w1).mono ?_
  rintro e w2 ⟨rfl, hB2, hs2, hA2⟩
  have HB2 := Lib.hid hB2
  have HA2 := Lib.hid hA2
  clear hB2 hA2
  go_wp2_with fail
  refine (AStr.gNew (some ⟨p, 0, none⟩) [p, g, f, w1.heap.size + 4, w1.heap.size + 1, w1.heap.size, w1.heap.size + 3, w1.heap.size + 2] w2).mono ?_
  rintro e w3 ⟨rfl, hB3, hs3, hA3⟩
  have hsz3 : w3.heap.size = w1.heap.size + 4 := by omega
  rw [show w2.heap.size + 1 = w1.heap.size + 3 by omega, show w2.heap.size = w1.heap.size + 2 by omega] at hA3
  rw [show w2.heap.size + 1 = w1.heap.size + 3 by omega]
  have hB4 := (Below.refl w3.heap.size w3).alloc (Nat.le_refl _) (.map #[] 0)
  have hBk := blk_of w (w1.heap.size + 5) p g f (w1.heap.size + 4) (w1.heap.size + 1) w1.heap.size (w1.heap.size + 3) (w1.heap.size + 2) hp1 hg1 hf1 n1 n2 n3 hpl hgl hfl (by omega) (by omega) (by omega) (by omega) (by omega)
  have hI : TwoI w (w3.alloc (.map #[] 0)) n (w1.heap.size + 5) [p, g, f, w1.heap.size + 4, w1.heap.size + 1, w1.heap.size, w1.heap.size + 3, w1.heap.size + 2] p g f (w1.heap.size + 4) (w1.heap.size + 1) w1.heap.size (w1.heap.size + 3) (w1.heap.size + 2) (.slice none 0 0) [] (List.replicate n 1) (List.replicate n true) [] [] 0 0 [] 0 := by
    have hsz1 := HB1.out.size
    refine ⟨((HB1.out.trans (HB2.out.mono hsz1)).trans (hB3.mono (by omega))).trans (hB4.mono (by omega)), by simp; omega, ((HP1.out.below HB2.out).below hB3).below hB4, ArenaG.below (ArenaG.below HA2.out hB3) hB4, ArenaG.below hA3 hB4, ?_, ?_, by simp, ⟨by simp [hcells], .inl ⟨rfl, rfl⟩⟩, fun b hb => by simp [Value.ownBlock] at hb⟩
    · have := heap_alloc_new w3 (.map #[] 0)
      rw [hsz3] at this
      exact this
    · refine ⟨?_, by simp, by simp, by simp, by simp, by simp, by simp, by simp, by simp⟩
      intro k
      by_cases hk : k < n
      · simp [val?, hk]
      · simp [val?, hk]
  have HI := Lib.hid hI
  have HK := Lib.hid hBk
  clear hI hBk hB3 hA3 HP1 HB1 HB2 HA2 hB4 n1 n2 n3
  go_wp2_with fail
  generalize [p, g, f, w1.heap.size + 4, w1.heap.size + 1, w1.heap.size, w1.heap.size + 3, w1.heap.size + 2] = R at HI HK
  have hs3' := hsz3.symm
  generalize w1.heap.size + 5 = base at HI HK
  generalize w1.heap.size + 4 = ms at HI HK hsz3 hs3' ⊢
  generalize w1.heap.size + 3 = ba at HI HK ⊢
  generalize w1.heap.size + 2 = bm at HI HK ⊢
  generalize w1.heap.size + 1 = aa at HI HK ⊢
  generalize w1.heap.size = am at HI HK
  clear hsz3 hs3' hs3 hs2 hp1 hg1 hf1 hpl hgl hfl
  generalize w3.alloc (.map #[] 0) = w4 at HI ⊢
  go_loopw [13, 15, 16] (fun tv gv i wr => ∃ (k : Nat) (hs : List (Int × Int)) (gens : List Int) (free : List Bool) (LA LB : List AEnt) (cA cB : Nat) (S : List Ent) (cs : Nat), k ≤ len ∧ i = .int .i64 k ∧ gv = .bool true ∧ hs.length ≤ k ∧ TwoI w wr n base R p g f ms aa am ba bm tv hs gens free LA LB cA cB S cs) (fun _ _ i _ => len - (intOf i).toNat)
  case atStart => exact ⟨0, [], _, _, [], [], 0, 0, [], 0, Nat.zero_le _, rfl, rfl, Nat.le_refl _, HI.out⟩
  case round =>
    obtain ⟨k, hs, gens, free, LA, LB, cA, cB, S, cs, hk, rfl, rfl, hhs, hI⟩ := hrel
    clear HI
    replace hI := Lib.hid hI
    by_cases hlt : k < len
    · obtain ⟨b, off, y, rfl, g0, hy0, hy1⟩ := hro.out k hlt
      replace g0 := keep hI.out.bel g0
      have hbw : b < wr.heap.size := block_lt_of_cell g0
      have hro' := hro
      clear hro
      by_cases hodd : (y % 2 == 1) = true
      · rcases hI.out.told.cases with ⟨rfl, rfl⟩ | ⟨tb, tc, rfl, _, htb, hob, htc⟩
        · go_wp2_with fail
          go_roundw
          case rel => exact ⟨k + 1, [], gens, free, LA, LB, cA, cB, S, cs, by omega, by go_num, rfl, by simp, hI.out⟩
          case measure => simp [intOf]; omega
        · by_cases hj : y / 2 % 8 ≤ (hs.length : Int) - 1
          · obtain ⟨⟨sl, gn⟩, hx⟩ : ∃ x, hs[((hs.length : Int) - 1 - y / 2 % 8).toNat]? = some x := ⟨hs[((hs.length : Int) - 1 - y / 2 % 8).toNat]'(by omega), List.getElem?_eq_getElem _⟩
            obtain ⟨c0, c1⟩ := htc _ _ hx
            clear htc hx
            rw [Nat.mul_comm] at c0 c1
            dsimp only at c0 c1
            have HN := Lib.hid HK.out.ne
            have HM := Lib.hid HK.out.mem
            have htbS : ∀ S0 : List Nat, (∀ r, r ∈ S0 → r ∈ R) → tb ∉ S0 := by
              intro S0 hS0 hm
              have h1 := HK.out.lt _ (hS0 _ hm)
              omega
            replace htbS := Lib.hid htbS
            by_cases hxa : ∃ e, e ∈ LA ∧ sl = (e.slot : Int) ∧ e.gen = gn
            · obtain ⟨e, he, hs1, hs2⟩ := hxa
              have hrel := AInt.gRelease_some ⟨aa, am, LA, cA⟩ p g f R gens free sl gn e wr hI.out.fst hI.out.pool he hs1 hs2 (hI.out.st.inA e he) HN.out.1.1 HN.out.1.2.1 HN.out.1.2.2.1 HN.out.1.2.2.2.1 HN.out.1.2.2.2.2.1 HN.out.1.2.2.2.2.2 ⟨HM.out.1, HM.out.2.1, HM.out.2.2.1, HM.out.2.2.2.2.2.1⟩
              have HST := Lib.hid (hI.out.st.freeA he)
              replace hrel := Lib.hid hrel
              have HE := Lib.hid hs1
              clear hs1 hs2 he
              go_wp2_with fail
              refine hrel.out.mono ?_
              clear hrel
              rintro e1 w5 ⟨rfl, hu5, hp5, ha5⟩
              have hm5 := hu5.heap hI.out.map (by simp; exact ⟨HN.out.2.2.1, HN.out.2.2.2.1, HN.out.2.2.2.2.1, HN.out.2.2.2.2.2.2.1⟩)
              replace c0 := hu5.cell c0 (htbS.out _ (by simp; exact ⟨HM.out.1, HM.out.2.1, HM.out.2.2.1, HM.out.2.2.2.2.2.1⟩))
              replace c1 := hu5.cell c1 (htbS.out _ (by simp; exact ⟨HM.out.1, HM.out.2.1, HM.out.2.2.1, HM.out.2.2.2.2.2.1⟩))
              have hdel := run_delete (P := Try.prog) (KT := 3) (ty := 0) sl Try.underlying27 Try.underlying3 hm5
              have HU5 := Lib.hid hu5
              have HP5 := Lib.hid hp5
              have HA5 := Lib.hid ha5
              have HM5 := Lib.hid hm5
              clear hu5 hp5 ha5 hm5
              go_wp2_with fail
              clear hdel
              go_roundw
              case rel =>
                refine ⟨k + 1, hs, gens.set e.slot (IntKind.u64.wrap (gens.getD e.slot 0 + 1)), free.set e.slot true, LA.filter (fun x => decide (x.slot ≠ e.slot)), LB, cA, cB, _, cs, by omega, by go_num, rfl, by omega, hI.out.turnA HK.out ?_ ?_ ?_ ?_ HST.out ?_ ?_⟩
                · exact (HU5.out.mono (by simp +contextual)).setObj (by simp) _
                · obtain ⟨q1, q2, q3, q4, q5, q6, q7, q8⟩ := HP5.out
                  exact ⟨q1, q2, q3, q4, q5, (heap_setObj_other _ HN.out.2.2.1.symm).trans q6, (heap_setObj_other _ HN.out.2.2.2.1.symm).trans q7, (heap_setObj_other _ HN.out.2.2.2.2.1.symm).trans q8⟩
                · exact ArenaG.upd (S := [ms]) HA5.out ((Upd.refl _ _).setObj (by simp) _) (by simp; exact HM.out.2.2.2.1) (by simp; exact HN.out.2.2.2.2.2.1.symm) (by simp; exact HN.out.2.2.2.2.2.2.1.symm)
                · rw [heap_setObj_same _ (heap_lt HM5.out), HE.out]
                · rw [List.length_set]; exact hI.out.num
                · exact fun e' he' => .inl (List.mem_filter.1 he').1
              case measure => simp [intOf]; omega
            · replace hxa : ∀ e, e ∈ LA → ¬ (sl = (e.slot : Int) ∧ e.gen = gn) := fun e he hh => hxa ⟨e, he, hh⟩
              have hra := AInt.gRelease_none ⟨aa, am, LA, cA⟩ R (some ⟨p, 0, none⟩) sl gn wr hI.out.fst hxa
              replace hra := Lib.hid hra
              clear hxa
              go_wp2_with fail
              refine hra.out.mono ?_
              clear hra
              rintro e1 w4 ⟨rfl, hb4⟩
              have hI4 := hI.out.below hb4
              replace c0 := keep hb4 c0
              replace c1 := keep hb4 c1
              replace g0 := keep hb4 g0
              clear hb4 hI
              have hI := Lib.hid hI4
              clear hI4
              by_cases hxb : ∃ e, e ∈ LB ∧ sl = (e.slot : Int) ∧ e.gen = gn
              · obtain ⟨e, he, hs1, hs2⟩ := hxb
                have hrel := AStr.gRelease_some ⟨ba, bm, LB, cB⟩ p g f R gens free sl gn e w4 hI.out.snd hI.out.pool he hs1 hs2 (hI.out.st.inB e he) HN.out.2.1.1 HN.out.2.1.2.1 HN.out.2.1.2.2.1 HN.out.2.1.2.2.2.1 HN.out.2.1.2.2.2.2.1 HN.out.2.1.2.2.2.2.2 ⟨HM.out.1, HM.out.2.1, HM.out.2.2.1, HM.out.2.2.2.2.2.2.2⟩
                have HST := Lib.hid (hI.out.st.swap.freeA he).swap
                replace hrel := Lib.hid hrel
                have HE := Lib.hid hs1
                clear hs1 hs2 he
                go_wp2_with fail
                refine hrel.out.mono ?_
                clear hrel
                rintro e1 w5 ⟨rfl, hu5, hp5, ha5⟩
                have hm5 := hu5.heap hI.out.map (by simp; exact ⟨HN.out.2.2.1, HN.out.2.2.2.1, HN.out.2.2.2.2.1, HN.out.2.2.2.2.2.2.2.2⟩)
                replace c0 := hu5.cell c0 (htbS.out _ (by simp; exact ⟨HM.out.1, HM.out.2.1, HM.out.2.2.1, HM.out.2.2.2.2.2.2.2⟩))
                replace c1 := hu5.cell c1 (htbS.out _ (by simp; exact ⟨HM.out.1, HM.out.2.1, HM.out.2.2.1, HM.out.2.2.2.2.2.2.2⟩))
                have hdel := run_delete (P := Try.prog) (KT := 3) (ty := 0) sl Try.underlying27 Try.underlying3 hm5
                have HU5 := Lib.hid hu5
                have HP5 := Lib.hid hp5
                have HA5 := Lib.hid ha5
                have HM5 := Lib.hid hm5
                clear hu5 hp5 ha5 hm5
                go_wp2_with fail
                clear hdel
                go_roundw
                case rel =>
                  refine ⟨k + 1, hs, gens.set e.slot (IntKind.u64.wrap (gens.getD e.slot 0 + 1)), free.set e.slot true, LA, LB.filter (fun x => decide (x.slot ≠ e.slot)), cA, cB, _, cs, by omega, by go_num, rfl, by omega, hI.out.turnB HK.out ?_ ?_ ?_ ?_ HST.out ?_ ?_⟩
                  · exact (HU5.out.mono (by simp +contextual)).setObj (by simp) _
                  · obtain ⟨q1, q2, q3, q4, q5, q6, q7, q8⟩ := HP5.out
                    exact ⟨q1, q2, q3, q4, q5, (heap_setObj_other _ HN.out.2.2.1.symm).trans q6, (heap_setObj_other _ HN.out.2.2.2.1.symm).trans q7, (heap_setObj_other _ HN.out.2.2.2.2.1.symm).trans q8⟩
                  · exact ArenaG.upd (S := [ms]) HA5.out ((Upd.refl _ _).setObj (by simp) _) (by simp; exact HM.out.2.2.2.1) (by simp; exact HN.out.2.2.2.2.2.2.2.1.symm) (by simp; exact HN.out.2.2.2.2.2.2.2.2.symm)
                  · rw [heap_setObj_same _ (heap_lt HM5.out), HE.out]
                  · rw [List.length_set]; exact hI.out.num
                  · exact fun e' he' => .inl (List.mem_filter.1 he').1
                case measure => simp [intOf]; omega
              · replace hxb : ∀ e, e ∈ LB → ¬ (sl = (e.slot : Int) ∧ e.gen = gn) := fun e he hh => hxb ⟨e, he, hh⟩
                have hrb := AStr.gRelease_none ⟨ba, bm, LB, cB⟩ R (some ⟨p, 0, none⟩) sl gn w4 hI.out.snd hxb
                replace hrb := Lib.hid hrb
                clear hxb
                go_wp2_with fail
                refine hrb.out.mono ?_
                clear hrb
                rintro e1 w5 ⟨rfl, hb5⟩
                have hI5 := hI.out.below hb5
                clear hb5 hI
                replace hI5 := Lib.hid hI5
                go_wp2_with fail
                go_roundw
                case rel => exact ⟨k + 1, hs, gens, free, LA, LB, cA, cB, S, cs, by omega, by go_num, rfl, by omega, hI5.out⟩
                case measure => simp [intOf]; omega
          · go_wp2_with fail
            go_roundw
            case rel => exact ⟨k + 1, hs, gens, free, LA, LB, cA, cB, S, cs, by omega, by go_num, rfl, by omega, hI.out⟩
            case measure => simp [intOf]; omega
      · replace hodd : (y % 2 == 1) = false := by simpa using hodd
        have HN := Lib.hid HK.out.ne
        have HM := Lib.hid HK.out.mem
        have hB0 := (Below.refl wr.heap.size wr).alloc (Nat.le_refl _) (.cells #[.int .i64 0, .int .u64 0] 40)
        have hI0 := hI.out.below hB0
        have hRl : ∀ r, r ∈ R → r < (wr.alloc (.cells #[.int .i64 0, .int .u64 0] 40)).heap.size := by
          intro r hr
          have h1 := (HK.out.lt r hr).2
          have h2 := hI0.siz
          omega
        have hbR : wr.heap.size ∉ R := by
          intro hr
          have h1 := (HK.out.lt _ hr).2
          have h2 := hI.out.siz
          omega
        by_cases hfull : true ∈ free
        · have hlti : free.idxOf true < free.length := List.idxOf_lt_length_of_mem hfull
          have hiti : free[free.idxOf true]? = some true := by rw [List.getElem?_eq_getElem hlti]; simp
          have hnA : ∀ e, e ∈ LA → e.slot ≠ free.idxOf true := fun e he hh => by have := hI.out.st.inA e he; rw [hh, hiti] at this; cases this
          have hnB : ∀ e, e ∈ LB → e.slot ≠ free.idxOf true := fun e he hh => by have := hI.out.st.inB e he; rw [hh, hiti] at this; cases this
          have hones := hI.out.st.ones
          have hbelow : ∀ j : Nat, j < free.idxOf true → val? S j = some (.int .i64 1) := by
            intro j hj
            have h1 := List.not_of_lt_findIdx (p := fun x => x == true) (xs := free) (i := j) hj
            have h2 : free[j]? = some false := by rw [List.getElem?_eq_getElem (by omega)]; simpa using h1
            rw [hones j, if_pos h2]
          have hat0 : val? S (free.idxOf true : Nat) = none := by rw [hones, hiti]; simp
          have hn4 : free.idxOf true ≤ 4096 := by have := hI.out.num; omega
          by_cases hev : (y % 4 == 0) = true
          · have hal := AInt.gAlloc_some ⟨aa, am, LA, cA⟩ p g f R gens free k _ hI0.fst hI0.pool hfull HN.out.1.1 HN.out.1.2.1 HN.out.1.2.2.2.1 HN.out.1.2.2.2.2.1 HN.out.1.2.2.2.2.2 ⟨HM.out.1, HM.out.2.2.1, HM.out.2.2.2.2.2.1⟩ hRl hnA
            have HST := Lib.hid (fun x c hx => hI.out.st.putA hfull (x := x) hx c)
            have HL := Lib.hid (fun W hW => least_any ms S cs (free.idxOf true) W hW hn4 hbelow hat0)
            replace hat0 := Lib.hid hat0
            replace hal := Lib.hid hal
            clear hlti hiti hnA hnB hones hbelow hn4 hI0
            generalize gens.getD (free.idxOf true) 0 = gv at *
            generalize free.idxOf true = i at *
            go_wp2_with fail
            refine hal.out.mono ?_
            clear hal
            rintro e1 w5 ⟨rfl, hu5, hp5, bb, hbb, ha5⟩
            have hu0 : Upd [p, f, am] wr w5 := ((Upd.refl _ _).alloc _).trans hu5
            have hnb : wr.heap.size ∉ [p, f, am] := fun hm => hbR (by simp at hm; rcases hm with h | h | h <;> rw [h] <;> first | exact HM.out.1 | exact HM.out.2.2.1 | exact HM.out.2.2.2.2.2.1)
            have hblk := hu5.heap (heap_alloc_new wr (.cells #[.int .i64 0, .int .u64 0] 40)) hnb
            have z0 : w5.cell? ⟨wr.heap.size, 0, none⟩ = some (.int .i64 0) := by rw [cell_of_heap hblk]; rfl
            have z1 : w5.cell? ⟨wr.heap.size, 1, none⟩ = some (.int .u64 0) := by rw [cell_of_heap hblk]; rfl
            have y0 : w5.frozen? ⟨wr.heap.size, 0, none⟩ = false := frozen_of_heap hblk _
            have y1 : w5.frozen? ⟨wr.heap.size, 1, none⟩ = false := frozen_of_heap hblk _
            have hsW : wr.heap.size < w5.heap.size := heap_lt hblk
            have hm5 := hu0.heap hI.out.map (by simp; exact ⟨HN.out.2.2.1, HN.out.2.2.2.2.1, HN.out.2.2.2.2.2.2.1⟩)
            have hq : Upd [wr.heap.size] w5 ((w5.setCell { block := wr.heap.size, off := 0 } (Value.int IntKind.i64 ↑i)).setCell { block := wr.heap.size, off := 1 } (Value.int IntKind.u64 gv)) := ((Upd.refl _ _).setCell (p := ⟨wr.heap.size, 0, none⟩) (by simp) _).setCell (p := ⟨wr.heap.size, 1, none⟩) (by simp) _
            have hq2 : Upd [p, f, am] wr ((w5.setCell { block := wr.heap.size, off := 0 } (Value.int IntKind.i64 ↑i)).setCell { block := wr.heap.size, off := 1 } (Value.int IntKind.u64 gv)) := (hu0.setNew (p := ⟨wr.heap.size, 0, none⟩) (Nat.le_refl _) _).setNew (p := ⟨wr.heap.size, 1, none⟩) (Nat.le_refl _) _
            have hRq : ∀ r, r ∈ R → r ∉ [wr.heap.size] := by
              intro r hr hm
              simp at hm
              exact hbR (hm ▸ hr)
            have hbe : ∀ e, e ∈ LA ++ [(⟨i, gv, bb, [.int .i64 k], cA⟩ : AEnt)] → e.blk ≠ wr.heap.size := by
              intro e he
              rcases List.mem_append.1 he with he | he
              · have := heap_lt (hI.out.fst.2.2.2.2.2 e he).2
                omega
              · simp only [List.mem_singleton] at he
                rw [he]
                simp at hbb
                dsimp only
                omega
            have HP6 := Lib.hid (hp5.upd hq (hRq _ HM.out.1) (hRq _ HM.out.2.1) (hRq _ HM.out.2.2.1))
            have hA6 : AInt.AG ((w5.setCell { block := wr.heap.size, off := 0 } (Value.int IntKind.i64 ↑i)).setCell { block := wr.heap.size, off := 1 } (Value.int IntKind.u64 gv)) R (some ⟨p, 0, none⟩) ⟨aa, am, LA ++ [⟨i, gv, bb, [.int .i64 k], cA⟩], cA + 1⟩ :=
              ⟨ha5.1, hq.heap ha5.2.1 (hRq _ HM.out.2.2.2.2.1), hq.heap ha5.2.2.1 (hRq _ HM.out.2.2.2.2.2.1), ha5.2.2.2.1, ha5.2.2.2.2.1, fun e he => ⟨(ha5.2.2.2.2.2 e he).1, hq.heap (ha5.2.2.2.2.2 e he).2 (fun hm => hbe e he (by simpa using hm))⟩⟩
            have HM6 := Lib.hid (hq.heap hm5 (hRq _ HM.out.2.2.2.1))
            have HU6 := Lib.hid hq2
            have HA6 := Lib.hid hA6
            clear hu5 hu0 hp5 ha5 hnb hblk hm5 hq hq2 hA6 hbe
            have z0' : ((w5.setCell { block := wr.heap.size, off := 0 } (Value.int IntKind.i64 ↑i)).setCell { block := wr.heap.size, off := 1 } (Value.int IntKind.u64 gv)).cell? ⟨wr.heap.size, 0, none⟩ = some (.int .i64 i) := by go_simp
            have z1' : ((w5.setCell { block := wr.heap.size, off := 0 } (Value.int IntKind.i64 ↑i)).setCell { block := wr.heap.size, off := 1 } (Value.int IntKind.u64 gv)).cell? ⟨wr.heap.size, 1, none⟩ = some (.int .u64 gv) := by go_simp
            go_wp2_with fail
            generalize (w5.setCell { block := wr.heap.size, off := 0 } (Value.int IntKind.i64 ↑i)).setCell { block := wr.heap.size, off := 1 } (Value.int IntKind.u64 gv) = w6 at HP6 HM6 HU6 HA6 z0' z1' ⊢
            have hlk : ∀ nq, (Instr.lookup 27 (.map (some ms)) (.int .i64 i) false).run Try.prog (w6.drewN nq) = .ok (.int .i64 0) (w6.drewN nq) := by
              intro nq
              have := run_lookup_one (P := Try.prog) (w := w6.drewN nq) (z := .int .i64 0) i Try.underlying27 Try.underlying3 HM6.out (by kernel_rfl)
              rw [hat0.out] at this
              exact this
            clear z0 z1 y0 y1
            have hsW6 : wr.heap.size < w6.heap.size := block_lt_of_cell z0'
            have hls := Lib.hid (fun nq => (HL.out (w6.drewN nq) HM6.out).mono (R' := fun e w' => e = .returned (.int .i64 i) ∧ w' = w6.drewN nq) fun _ _ hh => ⟨hh.1, hh.2.symm⟩)
            go_quiet ((go_at_call 34; exact Calls.quiet_of_same (hls.out _)))
            clear hlk
            have hup := run_update (P := Try.prog) (w := w6.drewN nq) (i : Int) (.int .i64 1) Try.underlying27 Try.underlying3 HM6.out
            rw [hat0.out] at hup
            simp only [Option.isSome_none, Bool.false_eq_true, if_false] at hup
            rw [setEnt_none _ _ _ _ hat0.out] at hup
            have hmsne : wr.heap.size ≠ ms := fun e => hbR (e ▸ HM.out.2.2.2.1)
            have hI7 : TwoI w (World.setObj' (w6.drewN nq) ms (.map (ents (S ++ [⟨i, .int .i64 1, cs⟩])) (cs + 1))) n base R p g f ms aa am ba bm u13 hs gens (free.set i false) (LA ++ [⟨i, gv, bb, [.int .i64 k], cA⟩]) LB (cA + 1) cB (S ++ [⟨i, .int .i64 1, cs⟩]) (cs + 1) := by
              refine hI.out.turnA HK.out ?_ ?_ ?_ ?_ (HST.out _ cs rfl) ?_ ?_
              · have h6 : Upd [p, g, f, ms, am] wr (w6.drewN nq) := (HU6.out.mono (by simp +contextual)).trans ⟨rfl, rfl, rfl, Nat.le_refl _, fun _ _ _ => rfl⟩
                exact h6.setObj (by simp) _
              · obtain ⟨q1, q2, q3, q4, q5, q6, q7, q8⟩ := HP6.out
                exact ⟨q1, q2, q3, q4, q5, (heap_setObj_other _ HN.out.2.2.1.symm).trans q6, (heap_setObj_other _ HN.out.2.2.2.1.symm).trans q7, (heap_setObj_other _ HN.out.2.2.2.2.1.symm).trans q8⟩
              · have h6 : Upd [ms] w6 (w6.drewN nq) := ⟨rfl, rfl, rfl, Nat.le_refl _, fun _ _ _ => rfl⟩
                exact ArenaG.upd (S := [ms]) HA6.out (h6.setObj (by simp) _) (by simp; exact HM.out.2.2.2.1) (by simp; exact HN.out.2.2.2.2.2.1.symm) (by simp; exact HN.out.2.2.2.2.2.2.1.symm)
              · exact heap_setObj_same _ (heap_lt HM6.out)
              · rw [List.length_set]; exact hI.out.num
              · intro e he
                rcases List.mem_append.1 he with he | he
                · exact .inl he
                · simp only [List.mem_singleton] at he
                  rw [he]
                  simp at hbb
                  exact .inr (by dsimp only; omega)
            have c70 : (World.setObj' (w6.drewN nq) ms (.map (ents (S ++ [⟨i, .int .i64 1, cs⟩])) (cs + 1))).cell? ⟨wr.heap.size, 0, none⟩ = some (.int .i64 i) := by
              rw [World.cell?_of_block (heap_setObj_other _ hmsne)]; exact z0'
            have c71 : (World.setObj' (w6.drewN nq) ms (.map (ents (S ++ [⟨i, .int .i64 1, cs⟩])) (cs + 1))).cell? ⟨wr.heap.size, 1, none⟩ = some (.int .u64 gv) := by
              rw [World.cell?_of_block (heap_setObj_other _ hmsne)]; exact z1'
            obtain ⟨i0, hi0, hz0, hz1, hz2⟩ := info_parts (show (Try.prog.info? 40).map (fun i => (i.zero, i.size, i.bytes)) = some (some (.agg #[.int .i64 0, .int .u64 0]), 2, 16) by kernel_rfl)
            have H7 := Lib.hid hI7
            have hown7 := hI7.told
            have hsz7 := hI7.siz
            clear hI7
            go_wp2_with (first | (at_builtin; refine wpList_append_own_at _ rfl _ _ 61 rfl base 40 i0 (.agg #[.int .i64 0, .int .u64 0]) 2 16 Try.underlying61 hi0 hz0 hz1 hz2 rfl (by decide) _ _ _ rfl (hown7.alloc _) ⟨(World.setObj' (w6.drewN nq) ms (.map (ents (S ++ [⟨i, .int .i64 1, cs⟩])) (cs + 1))).heap.size, 0, none⟩ 1 1 [.int .i64 i, .int .u64 gv] rfl rfl ?c1 ?c2 ?c3 ?c4 ?c5 ?_))
            case c1 => exact cell_two_new _ _ _ _
            case c2 => intro u hu; simp at hu; rcases hu with rfl | rfl <;> rfl
            case c3 => unfold maxLen; omega
            case c4 => omega
            case c5 => simp; omega
            intro v' w9 hown9 hgr9 _ hat9
            have hI8 := H7.out.below ((Below.refl _ _).alloc (Nat.le_refl _) (.cells #[.int .i64 i, .int .u64 gv] 40))
            have hI9 := hI8.app HK.out (x := (↑i, gv)) hgr9 (by unfold Told; rw [hcells_snoc, List.length_append]; exact hown9) (by simpa using hat9)
            replace hI9 := Lib.hid hI9
            clear hown9 hgr9 hat9 hI8 hown7 hsz7 c70 c71 H7 z0' z1' hsW6
            go_wp2_with fail
            go_roundw
            case rel => exact ⟨k + 1, hs ++ [((i : Int), gv)], gens, free.set i false, LA ++ [⟨i, gv, bb, [.int .i64 k], cA⟩], LB, cA + 1, cB, S ++ [⟨i, .int .i64 1, cs⟩], cs + 1, by omega, by go_num, rfl, by rw [List.length_append]; simp; omega, hI9.out⟩
            case measure => simp [intOf]; omega
          · replace hev : (y % 4 == 0) = false := by simpa using hev
            have hal := AStr.gAlloc_some ⟨ba, bm, LB, cB⟩ p g f R gens free ⟨#[120]⟩ _ hI0.snd hI0.pool hfull HN.out.2.1.1 HN.out.2.1.2.1 HN.out.2.1.2.2.2.1 HN.out.2.1.2.2.2.2.1 HN.out.2.1.2.2.2.2.2 ⟨HM.out.1, HM.out.2.2.1, HM.out.2.2.2.2.2.2.2⟩ hRl hnB
            have HST := Lib.hid (fun x c hx => (hI.out.st.swap.putA hfull (x := x) hx c).swap)
            have HL := Lib.hid (fun W hW => least_any ms S cs (free.idxOf true) W hW hn4 hbelow hat0)
            replace hat0 := Lib.hid hat0
            replace hal := Lib.hid hal
            clear hlti hiti hnA hnB hones hbelow hn4 hI0
            generalize gens.getD (free.idxOf true) 0 = gv at *
            generalize free.idxOf true = i at *
            go_wp2_with fail
            refine hal.out.mono ?_
            clear hal
            rintro e1 w5 ⟨rfl, hu5, hp5, bb, hbb, ha5⟩
            have hu0 : Upd [p, f, bm] wr w5 := ((Upd.refl _ _).alloc _).trans hu5
            have hnb : wr.heap.size ∉ [p, f, bm] := fun hm => hbR (by simp at hm; rcases hm with h | h | h <;> rw [h] <;> first | exact HM.out.1 | exact HM.out.2.2.1 | exact HM.out.2.2.2.2.2.2.2)
            have hblk := hu5.heap (heap_alloc_new wr (.cells #[.int .i64 0, .int .u64 0] 40)) hnb
            have z0 : w5.cell? ⟨wr.heap.size, 0, none⟩ = some (.int .i64 0) := by rw [cell_of_heap hblk]; rfl
            have z1 : w5.cell? ⟨wr.heap.size, 1, none⟩ = some (.int .u64 0) := by rw [cell_of_heap hblk]; rfl
            have y0 : w5.frozen? ⟨wr.heap.size, 0, none⟩ = false := frozen_of_heap hblk _
            have y1 : w5.frozen? ⟨wr.heap.size, 1, none⟩ = false := frozen_of_heap hblk _
            have hsW : wr.heap.size < w5.heap.size := heap_lt hblk
            have hm5 := hu0.heap hI.out.map (by simp; exact ⟨HN.out.2.2.1, HN.out.2.2.2.2.1, HN.out.2.2.2.2.2.2.2.2⟩)
            have hq : Upd [wr.heap.size] w5 ((w5.setCell { block := wr.heap.size, off := 0 } (Value.int IntKind.i64 ↑i)).setCell { block := wr.heap.size, off := 1 } (Value.int IntKind.u64 gv)) := ((Upd.refl _ _).setCell (p := ⟨wr.heap.size, 0, none⟩) (by simp) _).setCell (p := ⟨wr.heap.size, 1, none⟩) (by simp) _
            have hq2 : Upd [p, f, bm] wr ((w5.setCell { block := wr.heap.size, off := 0 } (Value.int IntKind.i64 ↑i)).setCell { block := wr.heap.size, off := 1 } (Value.int IntKind.u64 gv)) := (hu0.setNew (p := ⟨wr.heap.size, 0, none⟩) (Nat.le_refl _) _).setNew (p := ⟨wr.heap.size, 1, none⟩) (Nat.le_refl _) _
            have hRq : ∀ r, r ∈ R → r ∉ [wr.heap.size] := by
              intro r hr hm
              simp at hm
              exact hbR (hm ▸ hr)
            have hbe : ∀ e, e ∈ LB ++ [(⟨i, gv, bb, [.string ⟨#[120]⟩], cB⟩ : AEnt)] → e.blk ≠ wr.heap.size := by
              intro e he
              rcases List.mem_append.1 he with he | he
              · have := heap_lt (hI.out.snd.2.2.2.2.2 e he).2
                omega
              · simp only [List.mem_singleton] at he
                rw [he]
                simp at hbb
                dsimp only
                omega
            have HP6 := Lib.hid (hp5.upd hq (hRq _ HM.out.1) (hRq _ HM.out.2.1) (hRq _ HM.out.2.2.1))
            have hA6 : AStr.AG ((w5.setCell { block := wr.heap.size, off := 0 } (Value.int IntKind.i64 ↑i)).setCell { block := wr.heap.size, off := 1 } (Value.int IntKind.u64 gv)) R (some ⟨p, 0, none⟩) ⟨ba, bm, LB ++ [⟨i, gv, bb, [.string ⟨#[120]⟩], cB⟩], cB + 1⟩ :=
              ⟨ha5.1, hq.heap ha5.2.1 (hRq _ HM.out.2.2.2.2.2.2.1), hq.heap ha5.2.2.1 (hRq _ HM.out.2.2.2.2.2.2.2), ha5.2.2.2.1, ha5.2.2.2.2.1, fun e he => ⟨(ha5.2.2.2.2.2 e he).1, hq.heap (ha5.2.2.2.2.2 e he).2 (fun hm => hbe e he (by simpa using hm))⟩⟩
            have HM6 := Lib.hid (hq.heap hm5 (hRq _ HM.out.2.2.2.1))
            have HU6 := Lib.hid hq2
            have HA6 := Lib.hid hA6
            clear hu5 hu0 hp5 ha5 hnb hblk hm5 hq hq2 hA6 hbe
            have z0' : ((w5.setCell { block := wr.heap.size, off := 0 } (Value.int IntKind.i64 ↑i)).setCell { block := wr.heap.size, off := 1 } (Value.int IntKind.u64 gv)).cell? ⟨wr.heap.size, 0, none⟩ = some (.int .i64 i) := by go_simp
            have z1' : ((w5.setCell { block := wr.heap.size, off := 0 } (Value.int IntKind.i64 ↑i)).setCell { block := wr.heap.size, off := 1 } (Value.int IntKind.u64 gv)).cell? ⟨wr.heap.size, 1, none⟩ = some (.int .u64 gv) := by go_simp
            go_wp2_with fail
            generalize (w5.setCell { block := wr.heap.size, off := 0 } (Value.int IntKind.i64 ↑i)).setCell { block := wr.heap.size, off := 1 } (Value.int IntKind.u64 gv) = w6 at HP6 HM6 HU6 HA6 z0' z1' ⊢
            have hlk : ∀ nq, (Instr.lookup 27 (.map (some ms)) (.int .i64 i) false).run Try.prog (w6.drewN nq) = .ok (.int .i64 0) (w6.drewN nq) := by
              intro nq
              have := run_lookup_one (P := Try.prog) (w := w6.drewN nq) (z := .int .i64 0) i Try.underlying27 Try.underlying3 HM6.out (by kernel_rfl)
              rw [hat0.out] at this
              exact this
            clear z0 z1 y0 y1
            have hsW6 : wr.heap.size < w6.heap.size := block_lt_of_cell z0'
            have hls := Lib.hid (fun nq => (HL.out (w6.drewN nq) HM6.out).mono (R' := fun e w' => e = .returned (.int .i64 i) ∧ w' = w6.drewN nq) fun _ _ hh => ⟨hh.1, hh.2.symm⟩)
            go_quiet ((go_at_call 34; exact Calls.quiet_of_same (hls.out _)))
            clear hlk
            have hup := run_update (P := Try.prog) (w := w6.drewN nq) (i : Int) (.int .i64 1) Try.underlying27 Try.underlying3 HM6.out
            rw [hat0.out] at hup
            simp only [Option.isSome_none, Bool.false_eq_true, if_false] at hup
            rw [setEnt_none _ _ _ _ hat0.out] at hup
            have hmsne : wr.heap.size ≠ ms := fun e => hbR (e ▸ HM.out.2.2.2.1)
            have hI7 : TwoI w (World.setObj' (w6.drewN nq) ms (.map (ents (S ++ [⟨i, .int .i64 1, cs⟩])) (cs + 1))) n base R p g f ms aa am ba bm u13 hs gens (free.set i false) LA (LB ++ [⟨i, gv, bb, [.string ⟨#[120]⟩], cB⟩]) cA (cB + 1) (S ++ [⟨i, .int .i64 1, cs⟩]) (cs + 1) := by
              refine hI.out.turnB HK.out ?_ ?_ ?_ ?_ (HST.out _ cs rfl) ?_ ?_
              · have h6 : Upd [p, g, f, ms, bm] wr (w6.drewN nq) := (HU6.out.mono (by simp +contextual)).trans ⟨rfl, rfl, rfl, Nat.le_refl _, fun _ _ _ => rfl⟩
                exact h6.setObj (by simp) _
              · obtain ⟨q1, q2, q3, q4, q5, q6, q7, q8⟩ := HP6.out
                exact ⟨q1, q2, q3, q4, q5, (heap_setObj_other _ HN.out.2.2.1.symm).trans q6, (heap_setObj_other _ HN.out.2.2.2.1.symm).trans q7, (heap_setObj_other _ HN.out.2.2.2.2.1.symm).trans q8⟩
              · have h6 : Upd [ms] w6 (w6.drewN nq) := ⟨rfl, rfl, rfl, Nat.le_refl _, fun _ _ _ => rfl⟩
                exact ArenaG.upd (S := [ms]) HA6.out (h6.setObj (by simp) _) (by simp; exact HM.out.2.2.2.1) (by simp; exact HN.out.2.2.2.2.2.2.2.1.symm) (by simp; exact HN.out.2.2.2.2.2.2.2.2.symm)
              · exact heap_setObj_same _ (heap_lt HM6.out)
              · rw [List.length_set]; exact hI.out.num
              · intro e he
                rcases List.mem_append.1 he with he | he
                · exact .inl he
                · simp only [List.mem_singleton] at he
                  rw [he]
                  simp at hbb
                  exact .inr (by dsimp only; omega)
            have c70 : (World.setObj' (w6.drewN nq) ms (.map (ents (S ++ [⟨i, .int .i64 1, cs⟩])) (cs + 1))).cell? ⟨wr.heap.size, 0, none⟩ = some (.int .i64 i) := by
              rw [World.cell?_of_block (heap_setObj_other _ hmsne)]; exact z0'
            have c71 : (World.setObj' (w6.drewN nq) ms (.map (ents (S ++ [⟨i, .int .i64 1, cs⟩])) (cs + 1))).cell? ⟨wr.heap.size, 1, none⟩ = some (.int .u64 gv) := by
              rw [World.cell?_of_block (heap_setObj_other _ hmsne)]; exact z1'
            obtain ⟨i0, hi0, hz0, hz1, hz2⟩ := info_parts (show (Try.prog.info? 40).map (fun i => (i.zero, i.size, i.bytes)) = some (some (.agg #[.int .i64 0, .int .u64 0]), 2, 16) by kernel_rfl)
            have H7 := Lib.hid hI7
            have hown7 := hI7.told
            have hsz7 := hI7.siz
            clear hI7
            go_wp2_with (first | (at_builtin; refine wpList_append_own_at _ rfl _ _ 61 rfl base 40 i0 (.agg #[.int .i64 0, .int .u64 0]) 2 16 Try.underlying61 hi0 hz0 hz1 hz2 rfl (by decide) _ _ _ rfl (hown7.alloc _) ⟨(World.setObj' (w6.drewN nq) ms (.map (ents (S ++ [⟨i, .int .i64 1, cs⟩])) (cs + 1))).heap.size, 0, none⟩ 1 1 [.int .i64 i, .int .u64 gv] rfl rfl ?c1 ?c2 ?c3 ?c4 ?c5 ?_))
            case c1 => exact cell_two_new _ _ _ _
            case c2 => intro u hu; simp at hu; rcases hu with rfl | rfl <;> rfl
            case c3 => unfold maxLen; omega
            case c4 => omega
            case c5 => simp; omega
            intro v' w9 hown9 hgr9 _ hat9
            have hI8 := H7.out.below ((Below.refl _ _).alloc (Nat.le_refl _) (.cells #[.int .i64 i, .int .u64 gv] 40))
            have hI9 := hI8.app HK.out (x := (↑i, gv)) hgr9 (by unfold Told; rw [hcells_snoc, List.length_append]; exact hown9) (by simpa using hat9)
            replace hI9 := Lib.hid hI9
            clear hown9 hgr9 hat9 hI8 hown7 hsz7 c70 c71 H7 z0' z1' hsW6
            go_wp2_with fail
            go_roundw
            case rel => exact ⟨k + 1, hs ++ [((i : Int), gv)], gens, free.set i false, LA, LB ++ [⟨i, gv, bb, [.string ⟨#[120]⟩], cB⟩], cA, cB + 1, S ++ [⟨i, .int .i64 1, cs⟩], cs + 1, by omega, by go_num, rfl, by rw [List.length_append]; simp; omega, hI9.out⟩
            case measure => simp [intOf]; omega
        · by_cases hev : (y % 4 == 0) = true
          · have hal := Lib.hid (AInt.gAlloc_full ⟨aa, am, LA, cA⟩ p g f R gens free k _ hI0.fst hI0.pool hfull)
            have HI0 := Lib.hid hI0
            clear hI0
            go_wp2_with fail
            refine hal.out.mono ?_
            clear hal
            rintro e1 w5 ⟨rfl, hb5⟩
            have hI5 := Lib.hid (HI0.out.below hb5)
            have z0 : w5.cell? ⟨wr.heap.size, 0, none⟩ = some (.int .i64 0) := keep hb5 (by go_simp)
            have z1 : w5.cell? ⟨wr.heap.size, 1, none⟩ = some (.int .u64 0) := keep hb5 (by go_simp)
            have y0 : w5.frozen? ⟨wr.heap.size, 0, none⟩ = false := keepf hb5 (v := .int .i64 0) (by go_simp) (by go_simp)
            have y1 : w5.frozen? ⟨wr.heap.size, 1, none⟩ = false := keepf hb5 (v := .int .u64 0) (by go_simp) (by go_simp)
            have hsW : wr.heap.size < w5.heap.size := block_lt_of_cell z0
            have hbelow : Below wr.heap.size wr ((w5.setCell ⟨wr.heap.size, 0, none⟩ (.int .i64 0)).setCell ⟨wr.heap.size, 1, none⟩ (.int .u64 0)) := ((hB0.trans (hb5.mono (by simp))).setCell (p := ⟨wr.heap.size, 0, none⟩) (Nat.le_refl _) _).setCell (p := ⟨wr.heap.size, 1, none⟩) (Nat.le_refl _) _
            have HE := Lib.hid (hI.out.below hbelow)
            clear hb5 hbelow
            go_wp2_with fail
            go_roundw
            case rel => exact ⟨k + 1, hs, gens, free, LA, LB, cA, cB, S, cs, by omega, by go_num, rfl, by omega, HE.out⟩
            case measure => simp [intOf]; omega
          · replace hev : (y % 4 == 0) = false := by simpa using hev
            have hal := Lib.hid (AStr.gAlloc_full ⟨ba, bm, LB, cB⟩ p g f R gens free ⟨#[120]⟩ _ hI0.snd hI0.pool hfull)
            have HI0 := Lib.hid hI0
            clear hI0
            go_wp2_with fail
            refine hal.out.mono ?_
            clear hal
            rintro e1 w5 ⟨rfl, hb5⟩
            have hI5 := Lib.hid (HI0.out.below hb5)
            have z0 : w5.cell? ⟨wr.heap.size, 0, none⟩ = some (.int .i64 0) := keep hb5 (by go_simp)
            have z1 : w5.cell? ⟨wr.heap.size, 1, none⟩ = some (.int .u64 0) := keep hb5 (by go_simp)
            have y0 : w5.frozen? ⟨wr.heap.size, 0, none⟩ = false := keepf hb5 (v := .int .i64 0) (by go_simp) (by go_simp)
            have y1 : w5.frozen? ⟨wr.heap.size, 1, none⟩ = false := keepf hb5 (v := .int .u64 0) (by go_simp) (by go_simp)
            have hsW : wr.heap.size < w5.heap.size := block_lt_of_cell z0
            have hbelow : Below wr.heap.size wr ((w5.setCell ⟨wr.heap.size, 0, none⟩ (.int .i64 0)).setCell ⟨wr.heap.size, 1, none⟩ (.int .u64 0)) := ((hB0.trans (hb5.mono (by simp))).setCell (p := ⟨wr.heap.size, 0, none⟩) (Nat.le_refl _) _).setCell (p := ⟨wr.heap.size, 1, none⟩) (Nat.le_refl _) _
            have HE := Lib.hid (hI.out.below hbelow)
            clear hb5 hbelow
            go_wp2_with fail
            go_roundw
            case rel => exact ⟨k + 1, hs, gens, free, LA, LB, cA, cB, S, cs, by omega, by go_num, rfl, by omega, HE.out⟩
            case measure => simp [intOf]; omega
    · clear hmm
      go_wp2
      exact bodyPost_ret (v := .tuple #[.pointer (some ⟨p, 0, none⟩), .pointer (some ⟨aa, 0, none⟩), .pointer (some ⟨ba, 0, none⟩), .map (some ms), .bool true]) (by simp [results, Try.results9, go_sem]) rfl ⟨base, R, p, g, f, ms, aa, am, ba, bm, _, hs, gens, free, LA, LB, cA, cB, S, cs, rfl, HK.out, hI.out⟩
end Go.Proofs.Ytoknkedmpdcinaa
