/- Handles of an arena of one type. -/
import Derived.Test.YtmhlokomlngdmaaGreatArenaOfSAnode
import Derived.Test.YtmhlokomlngdmaaGreatMapRange
import Derived.Test.YtmhlokomlngdmaaGreatSortHands
import Derived.Deep.LoopGhost
import Derived.Deep.DeepCutAuto
namespace Go.Proofs.YtmhlokomlngdmaaGreat
open Go.RowKit Go.Sort
namespace AAnode
theorem cmp_clo : CmpClo 74 := by
  intro x y W
  have hcon := fun W' => AnyG.cmp_Compare_int Tryz.cmpInt x.1 y.1 W'
  change ∀ W', Calls Tryz.prog 75 _ _ _ at hcon
  unfold cmpSlot
  generalize Lib.compareInt x.1 y.1 = r at hcon ⊢
  go_enter Tryz.func74, Tryz.ntmps74
  go_wp2_with (go_at_call 75; refine (hcon _).mono ?_; rintro e w' ⟨rfl, rfl⟩)
  go_ret
  exact ⟨rfl, 0, _, by rw [alloc_eq_grow, alloc_eq_grow, grow_grow]; rfl⟩
def HandlesEnd (L : List AEnt) (w : World) (z : Ending) (w' : World) : Prop :=
  ∃ a c, z = .returned (.slice a (handsOf L).length c) ∧ Row w.heap.size 77 2 hcell w' (.slice a (handsOf L).length c) (handsOf L) ∧ Below w.heap.size w w'
set_option maxRecDepth 100000 in
set_option maxHeartbeats 1000000 in
theorem aHandles_any (A : AR) (R : List Nat) (p : Option Addr) (w : World) (h : ArenaG 125 129 w R p A) (hbd : Born AEnt.born A.L A.c) (hl : A.L.length ≤ 100000) :
    Calls Tryz.prog 57 #[.pointer (some ⟨A.a, 0, none⟩)] w (HandlesEnd A.L w) := by
  obtain ⟨q1, q2, q3, q4, q5, q6⟩ := h
  obtain ⟨aa, m, L, cc⟩ := A
  simp only at q1 q2 q3 q4 q5 q6 hbd hl ⊢
  have c1 : w.cell? ⟨aa, 1, none⟩ = some (.map (some m)) := by rw [cell_of_heap q2]; rfl
  have hmap : w.heap[m]? = some (.map (ents (L.map (entOf (fun e => (e.slot : Int)) (fun e => .pointer (some ⟨e.blk, 0, none⟩)) AEnt.born))) cc) := q3
  have hml := heap_lt hmap
  replace q4 := Lib.hid q4
  replace q6 := Lib.hid q6
  replace hmap := Lib.hid hmap
  clear q1 q2 q3 q5
  obtain ⟨i0, hi0, hz0, hz1, hz2⟩ := hand_info
  go_enter Tryz.func57, Tryz.ntmps57
  go_wp2_with (at_range; refine wpList_range_ents _ rfl _ 123 rfl 3 127 Tryz.underlying123 m L cc rfl hmap.out hbd ?_; intro w0 hrg0 hb0 hs0)
  go_frame
  replace hrg0 := Lib.hid hrg0
  replace hb0 := Lib.hid hb0
  replace hs0 := Lib.hid hs0
  go_loopg [3] L.length (fun gk lv wr => ∃ (T : List AEnt) (a : Option Addr) (c : Nat), gk = L.length - T.length ∧ lv = .slice a T.length c ∧ Rg (fun e => (e.slot : Int)) (fun e => .pointer (some ⟨e.blk, 0, none⟩)) AEnt.born wr w.heap.size m L cc T ∧
    Row w.heap.size 77 2 hcell wr (.slice a T.length c) (T.map hof) ∧ (Value.slice a T.length c).ownBlock ≠ some w.heap.size ∧ Below w.heap.size w wr)
  case atStart => exact ⟨[], none, 0, by simp, rfl, hrg0.out, Row.nil hcell_len hcell_one _ _ _, by simp [Value.ownBlock], hb0.out⟩
  case round =>
    obtain ⟨T, a, c, rfl, rfl, hrg, hrow, hoi, hB⟩ := hrel
    have hlen := hrg.len
    replace hB := Lib.hid hB
    replace hrow := Lib.hid hrow
    replace hoi := Lib.hid hoi
    clear hrg0 hb0 hs0
    go_wp2_with (at_next; refine wpList_next_ents (mk := fun e : AEnt => (e.slot : Int)) (mv := fun e => .pointer (some ⟨e.blk, 0, none⟩)) (bn := AEnt.born) _ rfl _ rfl w.heap.size m L T cc rfl hrg ?_ ?_)
    · intro hp
      have hln : T.length = (T.map hof).length := by simp
      have hrw := hrow.out
      rw [hln] at hrw
      have hsr := Lib.hid (sortHands_any 74 cmp_clo (enters_of Tryz.func74 (by kernel_rfl) rfl) a c wr hrw (by simp; omega))
      rw [← hln] at hsr
      replace hln := Lib.hid hln
      clear hrw hrg
      go_wp2_with fail
      refine hsr.out.mono ?_
      clear hsr
      rintro z w3 ⟨rfl, L', hpm, hpw, hr3, hu3⟩
      have he : L' = handsOf L := slots_sorted q4.out (hpm.trans (hp.map hof)) hpw
      subst he
      have hle : (handsOf L).length = T.length := by rw [hpm.length_eq]; simp
      go_wp2_with fail
      go_ret
      refine ⟨a, c, by rw [hle]; rfl, by rw [hle]; exact hr3, hB.out.trans (hu3.below hB.out.size (fun k hk => (hrow.out.lt k (mem_own hk)).1))⟩
    · intro x w1 hx hxT hrg1 hu1 hs1 hen
      have hxs := q6.out x hx
      have hb1 := hB.out.trans (hu1.below hB.out.size (by simp))
      have hg0 : w1.cell? ⟨x.blk, 0, none⟩ = some (.int .u64 x.gen) := keep hb1 (by rw [cell_of_heap hxs.2]; rfl)
      have hrow1 := hrow.out.upd hu1 (by simp; intro b hb hh; exact hoi.out (by rw [hb, hh]))
      have hrl := hrg1.len
      have hB2 : Below w1.heap.size w1 (w1.alloc (.cells #[.int .i64 x.slot, .int .u64 x.gen] 77)) := (Below.refl _ _).alloc (Nat.le_refl _) _
      have hR := Lib.hid (hrow1.below hB2)
      have hS := Lib.hid (SrcOf.one w1 77 (hcell (hof x)) (hcell_one _))
      have hbs : w.heap.size ≤ (w1.alloc (.cells #[.int .i64 x.slot, .int .u64 x.gen] 77)).heap.size := Nat.le_trans hb1.size hB2.size
      have hln : T.length = (T.map hof).length := by simp
      have hm63 : (T.map hof).length + [hof x].length ≤ maxLen := by unfold maxLen; simp; simp at hrl; omega
      have hmby : ((T.map hof).length + [hof x].length) * 16 ≤ 140737488355328 := by simp; simp at hrl; omega
      replace hbs := Lib.hid hbs
      replace hm63 := Lib.hid hm63
      replace hmby := Lib.hid hmby
      replace hs1 := Lib.hid hs1
      replace hu1 := Lib.hid hu1
      replace hrl := Lib.hid hrl
      have hrg1' := Lib.hid hrg1
      replace hb1 := Lib.hid hb1
      replace hln := Lib.hid hln
      clear hrow1 hB2 hxs hrg hrg1
      go_wp2_with (at_builtin; refine wpList_append_row (f := hcell) (L := T.map hof) (M := [hof x]) _ rfl _ _ 42 rfl w.heap.size 77 i0 (.agg #[.int .i64 0, .int .u64 0]) 2 16 Tryz.underlying42 hi0 hz0 hz1 hz2 rfl (by decide) (.slice a T.length c) rfl hR.out (.slice (some ⟨w1.heap.size, 0, none⟩) 1 1) rfl hS.out hm63.out hmby.out hbs.out ?_; intro a5 c5 w5 hrow5 hu5 hat5; replace hrow5 := Lib.hid hrow5; replace hu5 := Lib.hid hu5; replace hat5 := Lib.hid hat5)
      go_roundg (L.length - (T.length + 1))
      case measure =>
        have := hrl.out
        simp at this
        omega
      case rel =>
        have e1 : (T.map hof).length + [hof x].length = (T ++ [x]).length := by simp
        have e2 : T.map hof ++ [hof x] = (T ++ [x]).map hof := by simp
        have hr5 := hrow5.out
        rw [e1, e2] at hr5
        have hnw : ∀ q, q ∈ (Value.slice a T.length c).ownBlock.toList → w.heap.size ≤ q ∧ q ≠ w.heap.size := fun q hq => ⟨(hrow.out.lt q (mem_own hq)).1, fun hh => hoi.out (by rw [mem_own hq, hh])⟩
        have hu6 : Upd (Value.slice a T.length c).ownBlock.toList w1 w5 := ((Upd.refl _ _).alloc _).trans hu5.out
        have h1 := hb1.out.size
        have hit : w.heap.size < w1.heap.size := by
          obtain ⟨seen, c0, hh, _⟩ := hrg1'.out.it
          exact heap_lt hh
        refine ⟨T ++ [x], a5, c5, by simp, by simp, hrg1'.out.upd hu6 (fun hh => (hnw _ hh).2 rfl) (fun hh => by have := (hnw _ hh).1; omega), hr5, fun hh => ?_, hb1.out.trans (hu6.below h1 (fun k hk => (hnw k hk).1))⟩
        have hat := hat5.out
        rw [e1] at hat
        rcases hat with h2 | h2
        · rw [h2] at hh; exact hoi.out hh
        · rw [h2] at hh; injection hh with hh; simp at hh; omega
end AAnode
end Go.Proofs.YtmhlokomlngdmaaGreat
