/- The contract of a node's Delete. -/
import Derived.Test.YtlhobbfncjjeaaaBkPut
namespace Go.Proofs.Ytlhobbfncjjeaaa
open Go.RowKit
set_option maxRecDepth 100000 in
set_option maxHeartbeats 1000000 in
theorem nDelete_ok (n : BN) (qka qva qha : Option Addr) (qkc qvc qhc : Nat) {lo : Str} (key : Str) (w : World) (ho : NodeOK lo n) (hn : NodeAt w n qka qva qha qkc qvc qhc) (hsm : n.keys.length ≤ 1000) (hl : n.leaf = true) (hc : n.covers key = true) :
    Calls Try.prog 58 #[.agg #[.bool n.leaf, .slice qka n.keys.length qkc, .slice qva n.vals.length qvc, .slice qha n.kids.length qhc, .string n.high, .bool n.bnd, .int .i64 n.next.1, .int .u64 n.next.2], .string key] w (NEnd (n.del key) (n.old key) (hasK key n.keys) w) := by
  have hvl := (ho.lf hl).1
  have hkd := (ho.lf hl).2
  have hC := Lib.hid fun W hW => nClone_ok n qka qva qha qkc qvc qhc W (hn.below n qka qva qha qkc qvc qhc hW) ⟨by omega, by omega, by rw [hkd]; simp⟩
  have hT := Lib.hid fun W hW => nTakes_ok n qka qva qha qkc qvc qhc key W ho (hn.below n qka qva qha qkc qvc qhc hW) hsm hl hc
  have hF := Lib.hid fun W (hW : Below w.heap.size w W) => nFind_any n.leaf qka n.keys.length qkc qva n.vals.length qvc qha n.kids.length qhc n.high n.bnd n.next.1 n.next.2 n.keys key W (hn.1.below hW) rfl
  replace hkd := Lib.hid hkd
  replace hvl := Lib.hid hvl
  replace ho := Lib.hid ho
  clear hn hc
  obtain ⟨m, hm⟩ : ∃ m, m = n.del key := ⟨_, rfl⟩
  obtain ⟨od, hod⟩ : ∃ od, od = n.old key := ⟨_, rfl⟩
  rw [← hm, ← hod]
  replace hm := Lib.hid hm
  replace hod := Lib.hid hod
  obtain ⟨lf, K, V, H, hi, bd, nx⟩ := n
  simp only at hC hT hF hl hkd hvl hsm ⊢
  subst hl
  go_enter Try.func58, Try.ntmps58
  go_wp2_with fail
  obtain ⟨hbx, hby⟩ := heap_two w (.cells #[.bool true, .slice qka K.length qkc, .slice qva V.length qvc, .slice qha H.length qhc, .string hi, .bool bd, .int .i64 nx.1, .int .u64 nx.2] 89) (.cells #[.bool false, .slice none 0 0, .slice none 0 0, .slice none 0 0, .string ⟨#[]⟩, .bool false, .int .i64 0, .int .u64 0] 89)
  have hB := below_two w (.cells #[.bool true, .slice qka K.length qkc, .slice qva V.length qvc, .slice qha H.length qhc, .string hi, .bool bd, .int .i64 nx.1, .int .u64 nx.2] 89) (.cells #[.bool false, .slice none 0 0, .slice none 0 0, .slice none 0 0, .string ⟨#[]⟩, .bool false, .int .i64 0, .int .u64 0] 89)
  have hz : ((w.alloc (.cells #[.bool true, .slice qka K.length qkc, .slice qva V.length qvc, .slice qha H.length qhc, .string hi, .bool bd, .int .i64 nx.1, .int .u64 nx.2] 89)).alloc (.cells #[.bool false, .slice none 0 0, .slice none 0 0, .slice none 0 0, .string ⟨#[]⟩, .bool false, .int .i64 0, .int .u64 0] 89)).heap.size = w.heap.size + 2 := by simp
  generalize (w.alloc (.cells #[.bool true, .slice qka K.length qkc, .slice qva V.length qvc, .slice qha H.length qhc, .string hi, .bool bd, .int .i64 nx.1, .int .u64 nx.2] 89)).alloc (.cells #[.bool false, .slice none 0 0, .slice none 0 0, .slice none 0 0, .string ⟨#[]⟩, .bool false, .int .i64 0, .int .u64 0] 89) = W0 at *
  refine (hC.out _ hB).mono ?_
  clear hC
  rintro e w1 ⟨qka2, qva2, qha2, qkc2, qvc2, qhc2, rfl, hown, hb1⟩
  rw [hz] at hown
  replace hbx := Below.heap' hb1 hbx
  replace hby := Below.heap' hb1 hby
  have hB1 := hB.trans (hb1.mono hB.size)
  have y0 := fun k => frozen_of_heap hby k
  obtain ⟨d0, d1, d2, d3, d4, d5, d6, d7⟩ := node_cells false none 0 0 none 0 0 none 0 0 ⟨#[]⟩ false 0 0 hby
  obtain ⟨f0, f1, f2, f3, f4, f5, f6, f7⟩ := And.intro (y0 0) (And.intro (y0 1) (And.intro (y0 2) (And.intro (y0 3) (And.intro (y0 4) (And.intro (y0 5) (And.intro (y0 6) (y0 7)))))))
  have hbx' := Lib.hid hbx
  have hby' := Lib.hid hby
  have hown' := Lib.hid hown
  have hB1' := Lib.hid hB1
  obtain ⟨c0, c1, c2, c3, c4, c5, c6, c7⟩ := node_cells _ _ _ _ _ _ _ _ _ _ _ _ _ _ hbx
  clear hbx hby hown hB1 y0 hb1 hB hz
  have hq := heap_lt hby'.out
  go_wp2_with fail
  obtain ⟨W2, hW2⟩ : ∃ W2, W2 = (World.setCell (World.setCell (World.setCell (World.setCell (World.setCell (World.setCell (World.setCell (World.setCell w1 ⟨w.heap.size + 1, 0, none⟩ (.bool true)) ⟨w.heap.size + 1, 1, none⟩ (.slice qka2 K.length qkc2)) ⟨w.heap.size + 1, 2, none⟩ (.slice qva2 V.length qvc2)) ⟨w.heap.size + 1, 3, none⟩ (.slice qha2 H.length qhc2)) ⟨w.heap.size + 1, 4, none⟩ (.string hi)) ⟨w.heap.size + 1, 5, none⟩ (.bool bd)) ⟨w.heap.size + 1, 6, none⟩ (.int .i64 nx.1)) ⟨w.heap.size + 1, 7, none⟩ (.int .u64 nx.2)) := ⟨_, rfl⟩
  rw [← hW2]
  have hPS : PS w W2 ⟨true, K, V, H, hi, bd, nx⟩ qka qva qha qkc qvc qhc ⟨true, K, V, H, hi, bd, nx⟩ qka2 qva2 qha2 qkc2 qvc2 qhc2 := by
    obtain ⟨hst, hus⟩ := node_stored (n2 := ⟨true, K, V, H, hi, bd, nx⟩) (qka2 := qka2) (qva2 := qva2) (qha2 := qha2) (qkc2 := qkc2) (qvc2 := qvc2) (qhc2 := qhc2) hby'.out
    rw [hW2]
    exact ⟨hB1'.out.trans (hus.below hB1'.out.size (by simp)), hus.heap hbx'.out (by simp), hst, hown'.out.upd ⟨true, K, V, H, hi, bd, nx⟩ qka2 qva2 qha2 qkc2 qvc2 qhc2 hus (by simp)⟩
  clear hW2 d0 d1 d2 d3 d4 d5 d6 d7 c0 c1 c2 c3 c4 c5 c6 c7 f0 f1 f2 f3 f4 f5 f6 f7 hbx' hby' hown' hB1' hq
  refine (hF.out _ hPS.bel).mono ?_
  clear hF
  rintro e w3 ⟨rfl, hb3⟩
  have hPS3 := hPS.below hb3
  clear hPS hb3
  have hq := hPS3.size
  obtain ⟨c0, c1, c2, c3, c4, c5, c6, c7⟩ := node_cells _ _ _ _ _ _ _ _ _ _ _ _ _ _ hPS3.bx
  have hcl := cut_le key K
  cases hr : hasK key K with
  | false =>
    have hod' : od = s0 := by
      rw [hod.out]
      unfold BN.old
      simp only [hr, Bool.false_eq_true, if_false]
    have hm' : m = ⟨true, K, V, H, hi, bd, nx⟩ := by
      rw [hm.out]
      unfold BN.del
      simp only [hr, Bool.false_eq_true, if_false]
    obtain ⟨d0, d1, d2, d3, d4, d5, d6, d7⟩ := node_cells _ _ _ _ _ _ _ _ _ _ _ _ _ _ hPS3.bo
    have y0 := fun k => frozen_of_heap hPS3.bo k
    obtain ⟨f0, f1, f2, f3, f4, f5, f6, f7⟩ := And.intro (y0 0) (And.intro (y0 1) (And.intro (y0 2) (And.intro (y0 3) (And.intro (y0 4) (And.intro (y0 5) (And.intro (y0 6) (y0 7)))))))
    clear y0
    replace hod' := Lib.hid hod'
    replace hm' := Lib.hid hm'
    replace hPS3 := Lib.hid hPS3
    clear hm hod hcl
    go_wp2_with fail
    refine bodyPost_ret (v := .tuple #[.agg #[.bool true, .slice qka2 K.length qkc2, .slice qva2 V.length qvc2, .slice qha2 H.length qhc2, .string hi, .bool bd, .int .i64 nx.1, .int .u64 nx.2], .string ⟨#[]⟩, .bool false]) (by simp [results, Try.results58, go_sem, d0, d1, d2, d3, d4, d5, d6, d7]) rfl ?_
    have hfin : ∀ W', Upd [w.heap.size + 1] w3 W' → NEnd m od (hasK key K) w (.returned (.tuple #[.agg #[.bool true, .slice qka2 K.length qkc2, .slice qva2 V.length qvc2, .slice qha2 H.length qhc2, .string hi, .bool bd, .int .i64 nx.1, .int .u64 nx.2], .string ⟨#[]⟩, .bool false])) W' := fun W' hu => by
      obtain ⟨z1, z2⟩ := hPS3.out.fin hu
      rw [hm'.out, hod'.out, hr]
      exact ⟨qka2, qva2, qha2, qkc2, qvc2, qhc2, rfl, z1, z2⟩
    refine hfin _ ?_
    iterate 8 refine Upd.setCell ?_ (by simp) _
    exact Upd.refl _ _
  | true =>
    have hlt : cut key K < K.length := (List.getElem?_eq_some_iff.1 (hasK_iff.1 hr)).1
    have hvlt : cut key K < V.length := by rw [hvl.out]; exact hlt
    obtain ⟨y, hy⟩ : ∃ y, V[cut key K]? = some y := ⟨_, List.getElem?_eq_getElem hvlt⟩
    have hod' : od = y := by
      rw [hod.out]
      unfold BN.old
      simp only [hr, if_true]
      rw [List.getD_eq_getElem?_getD, hy]
      rfl
    have hm' : m = ⟨true, K.eraseIdx (cut key K), V.eraseIdx (cut key K), H, hi, bd, nx⟩ := by
      rw [hm.out]
      unfold BN.del
      simp only [hr, if_true]
    replace hod' := Lib.hid hod'
    replace hm' := Lib.hid hm'
    replace hPS3 := Lib.hid hPS3
    clear hm hod
    go_wp2_with fail
    refine (hT.out _ hPS3.out.bel).mono ?_
    clear hT
    rintro e w4 ⟨rfl, hb4⟩
    have hPS4 := hPS3.out.below hb4
    clear hPS3 hb4 c0 c1 c2 c3 c4 c5 c6 c7 hq
    have hq := hPS4.size
    obtain ⟨b, rfl, hb1, hb2, hcell, hfr, hvc, hvc63, _⟩ := hPS4.setVal hy s0
    obtain ⟨d0, d1, d2, d3, d4, d5, d6, d7⟩ := node_cells _ _ _ _ _ _ _ _ _ _ _ _ _ _ hPS4.bo
    generalize cut key K = ix at *
    have hw1 : IntKind.i64.wrap ((ix : Int) + 1) = (ix : Int) + 1 := IntWalk.i64_in _ (by omega)
    replace hy := Lib.hid hy
    replace hPS4 := Lib.hid hPS4
    go_wp2_with fail
    have hA1 : Below w4.heap.size w4 w4 := Below.refl _ _
    refine (InStr.delete_any scell (w.heap.size + 2) qka2 qkc2 K w4 hPS4.out.own.ky (by omega) ix hlt).mono ?_
    rintro e w5 ⟨a1, c1, rfl, hr5, hu5, ho5⟩
    obtain ⟨e1, e2, e3, hPS5⟩ := hPS4.out.newKeys hA1 hr5 hu5 ho5
    clear hPS4 hA1 hr5 hu5 ho5 d0 d1 d2 d3 d4 d5 d6 d7 hq hcell hfr hb2
    obtain ⟨d0, d1, d2, d3, d4, d5, d6, d7⟩ := node_cells _ _ _ _ _ _ _ _ _ _ _ _ _ _ e1
    replace hPS5 := Lib.hid hPS5
    replace e1 := Lib.hid e1
    go_wp2_with fail
    obtain ⟨w6, hw6⟩ : ∃ w6, w6 = w5.setCell ⟨w.heap.size + 1, 1, none⟩ (.slice a1 (K.eraseIdx ix).length c1) := ⟨_, rfl⟩
    rw [← hw6]
    rw [← hw6] at hPS5
    have hA1 : Below w6.heap.size w6 w6 := Below.refl _ _
    refine (InStr.delete_any scell (w.heap.size + 2) (some ⟨b, 0, none⟩) qvc2 V w6 hPS5.out.own.vl (by have := hvl.out; omega) ix hvlt).mono ?_
    rintro e w7 ⟨a2, c2, rfl, hr7, hu7, ho7⟩
    obtain ⟨g1, g2, g3, hPS7⟩ := hPS5.out.newVals hA1 hr7 hu7 ho7
    clear hPS5 hA1 hr7 hu7 ho7 d0 d1 d2 d3 d4 d5 d6 d7 hw6 e1 e2 e3
    obtain ⟨d0, d1, d2, d3, d4, d5, d6, d7⟩ := node_cells _ _ _ _ _ _ _ _ _ _ _ _ _ _ g1
    have y0 := fun k => frozen_of_heap g1 k
    obtain ⟨f0, f1, f2, f3, f4, f5, f6, f7⟩ := And.intro (y0 0) (And.intro (y0 1) (And.intro (y0 2) (And.intro (y0 3) (And.intro (y0 4) (And.intro (y0 5) (And.intro (y0 6) (y0 7)))))))
    clear y0 g2
    replace hPS7 := Lib.hid hPS7
    replace g1 := Lib.hid g1
    go_wp2_with fail
    refine bodyPost_ret (v := .tuple #[.agg #[.bool true, .slice a1 (K.eraseIdx ix).length c1, .slice a2 (V.eraseIdx ix).length c2, .slice qha2 H.length qhc2, .string hi, .bool bd, .int .i64 nx.1, .int .u64 nx.2], .string y, .bool true]) (by simp [results, Try.results58, go_sem, d0, d1, d2, d3, d4, d5, d6, d7]) rfl ?_
    have hfin : ∀ W', Upd [w.heap.size + 1] (w7.setCell ⟨w.heap.size + 1, 2, none⟩ (.slice a2 (V.eraseIdx ix).length c2)) W' → NEnd m od (hasK key K) w (.returned (.tuple #[.agg #[.bool true, .slice a1 (K.eraseIdx ix).length c1, .slice a2 (V.eraseIdx ix).length c2, .slice qha2 H.length qhc2, .string hi, .bool bd, .int .i64 nx.1, .int .u64 nx.2], .string y, .bool true])) W' := fun W' hu => by
      obtain ⟨z1, z2⟩ := hPS7.out.fin hu
      rw [hm'.out, hod'.out, hr]
      exact ⟨a1, a2, qha2, c1, c2, qhc2, rfl, z1, z2⟩
    refine hfin _ ?_
    iterate 8 refine Upd.setCell ?_ (by simp) _
    exact Upd.refl _ _
end Go.Proofs.Ytlhobbfncjjeaaa
