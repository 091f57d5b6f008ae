/- The contract of a B-link tree's leaf, whatever the visits write. -/
import Derived.Test.YtlhobbfncjjeaaaBkRead
import Derived.Test.YtlhobbfncjjeaaaBkNext
namespace Go.Proofs.Ytlhobbfncjjeaaa
open Go.RowKit
section
variable {σ : Type} {V : Vis σ} {w0 : World} {t f : Nat} {fi ca : Array Value} {rs : List Nat} {Inv : σ → World → (Nat → Nat) → Prop} {s : σ} {w : World} {ρ : Nat → Nat}
/-- What a leaf's search leaves. -/
def VLeaf (V : Vis σ) (rs : List Nat) (Inv : σ → World → (Nat → Nat) → Prop) (s : σ) (w : World) (ρ : Nat → Nat) (key : Str) (e : Ending) (w' : World) : Prop :=
  ∃ s' ρ' h lo n A B, ∃ qka qva qha qkc qvc qhc, e = .returned (.tuple #[.agg #[.bool n.leaf, .slice qka n.keys.length qkc, .slice qva n.vals.length qvc, .slice qha n.kids.length qhc, .string n.high, .bool n.bnd, .int .i64 n.next.1, .int .u64 n.next.2], .bool true]) ∧ NodeF w' ρ' n qka qva qha qkc qvc qhc ∧ LeafQ V s key s' 0 h lo n A B ∧ n.covers key = true ∧ Inv s' w' ρ' ∧ RU rs w w' ρ ρ'
theorem VisW.ro (hW : VisW V w0 t f fi ca rs Inv) (hI : Inv s w ρ) : Ro w0 w ρ := by
  obtain ⟨_, _, P, gens, free, D, rt, i, d, r, size, hB, _⟩ := hW.tree s w ρ hI
  exact hB.ro
/-- A reader's own blocks are written. -/
theorem VisW.step (hW : VisW V w0 t f fi ca rs Inv) {s2 : σ} {w2 : World} {ρ2 : Nat → Nat} (hI : Inv s2 w2 ρ2) (hR : RU rs w w2 ρ ρ2) (h0 : w0.heap.size ≤ w.heap.size) {S : List Nat} (hS : ∀ k, k ∈ S → w.heap.size ≤ k ∧ ρ2 k = 0) {W W' : World} (hb : Below w2.heap.size w2 W) (hu : Upd S W W') :
    Inv s2 W' ρ2 ∧ RU rs w W' ρ ρ2 ∧ ∀ (n : BN) (qka qva qha : Option Addr) (qkc qvc qhc : Nat), NodeF w2 ρ2 n qka qva qha qkc qvc qhc → NodeF W' ρ2 n qka qva qha qkc qvc qhc := by
  have hro := hW.ro hI
  have hI2 : Inv s2 W ρ2 := hW.own _ _ _ _ [] hI (Upd.of_below (S := []) hb) (by simp)
  refine ⟨hW.own _ _ _ _ S hI2 hu (fun k hk _ => ⟨Nat.le_trans h0 (hS k hk).1, (hS k hk).2⟩), (hR.own (Upd.of_below (S := []) hb) (by simp)).own hu (fun k hk => (hS k hk).1), fun n qka qva qha qkc qvc qhc hf => ?_⟩
  exact NodeF.ru n qka qva qha qkc qvc qhc (NodeF.ru n qka qva qha qkc qvc qhc hf (RU.below (rs := [0]) hro hb) (by simp)) (RU.upd (rs := [0]) (hW.ro hI2) hu (fun k hk _ => by simp [(hS k hk).2])) (by simp)
set_option maxRecDepth 100000 in
set_option maxHeartbeats 1000000 in
theorem vis_leaf (hV : VisOK V) (hW : VisW V w0 t f fi ca rs Inv) (hI : Inv s w ρ) (key : Str) :
    Calls Try.prog 43 #[.pointer (some ⟨t, 0, none⟩), .string key, .func (.func f) fi ca] w (VLeaf V rs Inv s w ρ key) := by
  obtain ⟨hsn, _, P, gens, free, D, rt, i, d, r, size, hB, hT⟩ := hW.tree s w ρ hI
  obtain ⟨m0, htop⟩ := hT.top
  obtain ⟨j0, hj0, hP0⟩ := LeafP.start (V := V) (key := key) hsn htop
  obtain ⟨c0, c1, c2, c3, c4, c5, hq⟩ := hT.cells
  have hro := hB.ro
  have h00 := hro.bel.size
  have hLk := Lib.hid fun s' W ρ' hI' j hh lo h => vis_look hV hW (s := s') (w := W) (ρ := ρ') hI' (j := j) (hh := hh) (lo := lo) h
  have htr := Lib.hid hW.tree
  have hWh := Lib.hid hW
  have hVh := Lib.hid hV
  have hst0 : Hid (∀ W, Below w.heap.size w W → Inv s W ρ ∧ RU rs w W ρ ρ) := Lib.hid fun W hb => ⟨hW.own _ _ _ _ [] hI (Upd.of_below (S := []) hb) (by simp), RU.below hro hb⟩
  have hz1 := hro.far w.heap.size (Nat.le_refl _)
  have hz2 := hro.far (w.heap.size + 1) (by omega)
  replace hP0 := Lib.hid hP0
  replace hz1 := Lib.hid hz1
  replace hz2 := Lib.hid hz2
  clear hV hW hI hsn hB hT htop hro hj0
  go_enter Try.func43, Try.ntmps43
  go_wp2_with fail
  go_loopg [7] (msr V s j0 []) (fun gk v wr => ∃ (s1 : σ) (ρ1 : Nat → Nat) (j : Nat) (h : Hd) (lo : Str) (n : BN) (A B : Lev), gk = msr V s1 j B ∧ v = .bool false ∧ LeafP V s key s1 j h lo n A B ∧ Inv s1 wr ρ1 ∧ RU rs w wr ρ ρ1 ∧ ρ1 w.heap.size = 0 ∧ ρ1 (w.heap.size + 1) = 0 ∧ wr.heap[w.heap.size]? = some (.cells #[.bool false, .slice none 0 0, .slice none 0 0, .slice none 0 0, .string ⟨#[]⟩, .bool false, .int .i64 0, .int .u64 0] 89) ∧ wr.heap[w.heap.size + 1]? = some (.cells #[.int .i64 h.1, .int .u64 h.2] 70))
  case atStart =>
    obtain ⟨hbx, hby⟩ := heap_two w (.cells #[.bool false, .slice none 0 0, .slice none 0 0, .slice none 0 0, .string ⟨#[]⟩, .bool false, .int .i64 0, .int .u64 0] 89) (.cells #[.int .i64 r.1, .int .u64 r.2] 70)
    obtain ⟨a1, a2⟩ := hst0.out _ (below_two w (.cells #[.bool false, .slice none 0 0, .slice none 0 0, .slice none 0 0, .string ⟨#[]⟩, .bool false, .int .i64 0, .int .u64 0] 89) (.cells #[.int .i64 r.1, .int .u64 r.2] 70))
    exact ⟨s, ρ, j0, r, _, m0, [], [], rfl, rfl, hP0.out, a1, a2, hz1.out, hz2.out, hbx, hby⟩
  case round =>
    clear c0 c1 c2 c3 c4 c5 hq hP0 hst0 hz1 hz2
    obtain ⟨s1, ρ1, j, hh, lo, n0, A0, B0, rfl, rfl, hP, hI1, hR1, hr1, hr2, hbz, hbh⟩ := hrel
    have hl := hLk.out s1 wr ρ1 hI1 j hh lo hP.at'.has
    have k0 : wr.cell? ⟨w.heap.size + 1, 0, none⟩ = some (.int .i64 hh.1) := by rw [cell_of_heap hbh]; rfl
    have k1 : wr.cell? ⟨w.heap.size + 1, 1, none⟩ = some (.int .u64 hh.2) := by rw [cell_of_heap hbh]; rfl
    have hbhq := heap_lt hbh
    obtain ⟨h1, h2⟩ := hh
    simp only at hl k0 k1 hbh
    replace hl := Lib.hid hl
    replace hP := Lib.hid hP
    replace hI1 := Lib.hid hI1
    replace hR1 := Lib.hid hR1
    replace hr1 := Lib.hid hr1
    replace hr2 := Lib.hid hr2
    replace hbz := Lib.hid hbz
    replace hbh := Lib.hid hbh
    clear hLk
    go_wp2_with fail
    refine hl.out.mono ?_
    clear hl
    rintro e w2 ⟨s2, ρ2, hst, hI2, hR2, hn⟩
    obtain ⟨hsn2, _, P, gens, free, D, rt, i, d, r', size, hB2, hT2⟩ := htr.out s2 w2 ρ2 hI2
    obtain ⟨n, A, B, hQ, hm⟩ := hP.out.look hVh.out hst hsn2
    obtain ⟨qka, qva, qha, qkc, qvc, qhc, rfl, hnf⟩ := hn n hQ.at'.memF
    have hks : n.keys.length ≤ 1000 := by have := hsn2.slim j _ hQ.at'.lev ((h1, h2), n) (by simp); simp only at this; omega
    have hr12 : ρ2 w.heap.size = 0 := by rw [hR2.role _ (heap_lt hbz.out)]; exact hr1.out
    have hr22 : ρ2 (w.heap.size + 1) = 0 := by rw [hR2.role _ (heap_lt hbh.out)]; exact hr2.out
    have hbz2 := hR2.heap hbz.out (by rw [hr1.out]; exact hWh.out.r0)
    have hbh2 := hR2.heap hbh.out (by rw [hr2.out]; exact hWh.out.r0)
    have hR12 := hR1.out.trans hR2
    have hcon := Lib.hid fun (W W' : World) hb hu => hWh.out.step (s2 := s2) (w2 := w2) (ρ2 := ρ2) hI2 hR12 h00 (S := [w.heap.size, w.heap.size + 1]) (fun k hk => by
      simp only [List.mem_cons, List.not_mem_nil, or_false] at hk
      rcases hk with rfl | rfl
      · exact ⟨Nat.le_refl _, hr12⟩
      · exact ⟨by omega, hr22⟩) (W := W) (W' := W') hb hu
    have hKd := Lib.hid fun (z : Hd) (hlf0 : n.leaf = false) (hc : n.covers key = true) (hz : n.kids[cutE key n.keys]? = some z) W hW => nKid_ok n qka qva qha qkc qvc qhc key z W hQ.at'.ok (hnf.1.below (w' := W) n qka qva qha qkc qvc qhc hW) hks hlf0 hc hz
    have hCv := Lib.hid fun W => nCovers_any n.leaf qka n.keys.length qkc qva n.vals.length qvc qha n.kids.length qhc n.high n.bnd n.next.1 n.next.2 key W
    rw [show (!n.bnd || slt key n.high) = n.covers key from rfl] at hCv
    have hfin : Hid (j = 0 → n.covers key = true → ∀ W W', Below w2.heap.size w2 W → Upd [w.heap.size] W W' → VLeaf V rs Inv s w ρ key (.returned (.tuple #[.agg #[.bool n.leaf, .slice qka n.keys.length qkc, .slice qva n.vals.length qvc, .slice qha n.kids.length qhc, .string n.high, .bool n.bnd, .int .i64 n.next.1, .int .u64 n.next.2], .bool true])) W') := Lib.hid fun h0 hc W W' hW hu => by
      subst h0
      obtain ⟨a1, a2, a3⟩ := hcon.out W W' hW (hu.mono (by simp))
      exact ⟨s2, ρ2, _, lo, n, A, B, qka, qva, qha, qkc, qvc, qhc, rfl, a3 _ _ _ _ _ _ _ hnf, hQ, hc, a1, a2⟩
    have hlf : Hid (n.leaf = decide (j = 0)) := Lib.hid hQ.at'.lf
    have hq2 := heap_lt hbh2
    have hqz2 := heap_lt hbz2
    obtain ⟨M, hM⟩ : ∃ M, M = msr V s1 j B0 := ⟨_, rfl⟩
    have hri : Hid (n.covers key = false → ∃ (y : Hd × BN) (A' B' : Lev) (M2 : Nat), n.next = y.1 ∧ LeafP V s key s2 j y.1 n.high y.2 A' B' ∧ M2 = msr V s2 j B' ∧ M2 < M) := Lib.hid fun hc => by
      obtain ⟨y, A', B', g1, g2, g3⟩ := hQ.right hsn2 hc
      exact ⟨y, A', B', _, g1, g2, rfl, by rw [hM]; exact Nat.lt_of_lt_of_le g3 hm⟩
    have hdo : Hid (∀ i, j = i + 1 → n.covers key = true → ∃ (z : Hd) (lo' : Str) (m : BN) (A' B' : Lev) (M2 : Nat), n.kids[cutE key n.keys]? = some z ∧ LeafP V s key s2 i z lo' m A' B' ∧ M2 = msr V s2 i B' ∧ M2 < M) := Lib.hid fun i hi hc => by
      subst hi
      obtain ⟨z, lo', m, A', B', g1, g2, g3⟩ := hQ.down hsn2 hc
      exact ⟨z, lo', m, A', B', _, g1, g2, rfl, by rw [hM]; exact Nat.lt_of_lt_of_le g3 hm⟩
    replace hM := Lib.hid hM
    replace hbz2 := Lib.hid hbz2
    replace hbh2 := Lib.hid hbh2
    replace hr12 := Lib.hid hr12
    replace hr22 := Lib.hid hr22
    clear hP hI1 hR1 hr1 hr2 hbz hbh hst hR2 hn hT2 hB2 hsn2 hQ hm hnf hI2 k0 k1 hbhq hR12 hks
    obtain ⟨cv, hcv⟩ : ∃ cv, cv = n.covers key := ⟨_, rfl⟩
    rw [← hcv] at hri hdo hKd hCv hfin
    clear hcv
    obtain ⟨lf, K, V, H, hi, bd, nx⟩ := n
    simp only at hKd hCv hfin hlf hdo hri ⊢
    go_wp2_with fail
    have hA : Below w2.heap.size w2 (w2.alloc (.cells #[.bool lf, .slice qka K.length qkc, .slice qva V.length qvc, .slice qha H.length qhc, .string hi, .bool bd, .int .i64 nx.1, .int .u64 nx.2] 89)) := (Below.refl _ _).alloc (Nat.le_refl _) _
    have hT := heap_alloc_new w2 (.cells #[.bool lf, .slice qka K.length qkc, .slice qva V.length qvc, .slice qha H.length qhc, .string hi, .bool bd, .int .i64 nx.1, .int .u64 nx.2] 89)
    generalize w2.alloc (.cells #[.bool lf, .slice qka K.length qkc, .slice qva V.length qvc, .slice qha H.length qhc, .string hi, .bool bd, .int .i64 nx.1, .int .u64 nx.2] 89) = W2 at *
    refine (hCv.out W2).mono ?_
    clear hCv
    rintro e w3 ⟨rfl, hb3⟩
    have hB3 : Below w2.heap.size w2 w3 := hA.trans (hb3.mono hA.size)
    replace hT := Below.heap' hb3 hT
    have hbz3 := Below.heap' hB3 hbz2.out
    have hbh3 := Below.heap' hB3 hbh2.out
    clear hA hb3
    obtain ⟨c0, c1, c2, c3, c4, c5, c6, c7⟩ := node_cells _ _ _ _ _ _ _ _ _ _ _ _ _ _ hT
    have hqT := heap_lt hT
    replace hT := Lib.hid hT
    replace hbz3 := Lib.hid hbz3
    replace hbh3 := Lib.hid hbh3
    replace hB3 := Lib.hid hB3
    cases cv with
    | false =>
      obtain ⟨⟨y1, y2⟩, A', B', M2, g1, g2, g3, g4⟩ := hri.out rfl
      simp only at g1 g2
      subst g1
      have k0 : w3.cell? ⟨w.heap.size + 1, 0, none⟩ = some (.int .i64 h1) := by rw [cell_of_heap hbh3.out]; rfl
      have k1 : w3.cell? ⟨w.heap.size + 1, 1, none⟩ = some (.int .u64 h2) := by rw [cell_of_heap hbh3.out]; rfl
      have f0 : w3.frozen? ⟨w.heap.size + 1, 0, none⟩ = false := frozen_of_heap hbh3.out _
      have f1 : w3.frozen? ⟨w.heap.size + 1, 1, none⟩ = false := frozen_of_heap hbh3.out _
      have hq3 := heap_lt hbh3.out
      replace g2 := Lib.hid g2
      replace g3 := Lib.hid g3
      go_wp2_with fail
      go_roundg M2
      case rel =>
        obtain ⟨a1, a2, _⟩ := hcon.out w3 _ hB3.out (((Upd.refl (S := [w.heap.size, w.heap.size + 1]) w3).setCell (p := ⟨w.heap.size + 1, 0, none⟩) (by simp) (.int .i64 nx.1)).setCell (p := ⟨w.heap.size + 1, 1, none⟩) (by simp) (.int .u64 nx.2))
        refine ⟨s2, ρ2, j, nx, hi, y2, A', B', g3.out, rfl, g2.out, a1, a2, hr12.out, hr22.out, ?_, ?_⟩
        · rw [heap_set_other _ _ (by simp), heap_set_other _ _ (by simp)]
          exact hbz3.out
        · rw [heap_self, heap_self, hbh3.out]
          rfl
      case measure => have := hM.out; omega
    | true =>
      rcases j with _ | j
      · have e0 : lf = true := hlf.out
        subst e0
        obtain ⟨d0, d1, d2, d3, d4, d5, d6, d7⟩ := node_cells false none 0 0 none 0 0 none 0 0 ⟨#[]⟩ false 0 0 hbz3.out
        have y := fun k => frozen_of_heap hbz3.out k
        obtain ⟨f0, f1, f2, f3, f4, f5, f6, f7⟩ := And.intro (y 0) (And.intro (y 1) (And.intro (y 2) (And.intro (y 3) (And.intro (y 4) (And.intro (y 5) (And.intro (y 6) (y 7)))))))
        have hqz := heap_lt hbz3.out
        clear y
        go_wp2_with fail
        refine bodyPost_ret (v := .tuple #[.agg #[.bool true, .slice qka K.length qkc, .slice qva V.length qvc, .slice qha H.length qhc, .string hi, .bool bd, .int .i64 nx.1, .int .u64 nx.2], .bool true]) (by simp [results, Try.results43, go_sem, d0, d1, d2, d3, d4, d5, d6, d7]) rfl ?_
        refine hfin.out trivial trivial _ _ hB3.out ?_
        iterate 8 refine Upd.setCell ?_ (by simp) _
        exact Upd.refl _ _
      · have e0 : lf = false := by simpa using hlf.out
        subst e0
        obtain ⟨z, lo', m, A', B', M2, g1, g2, g3, g4⟩ := hdo.out j rfl rfl
        replace g2 := Lib.hid g2
        replace g3 := Lib.hid g3
        go_wp2_with fail
        refine (hKd.out z trivial trivial g1 w3 hB3.out).mono ?_
        clear hKd
        rintro e w4 ⟨rfl, hb4⟩
        have hbz4 := Below.heap' hb4 hbz3.out
        have hbh4 := Below.heap' hb4 hbh3.out
        have hB4 := hB3.out.trans (hb4.mono hB3.out.size)
        have k0 : w4.cell? ⟨w.heap.size + 1, 0, none⟩ = some (.int .i64 h1) := by rw [cell_of_heap hbh4]; rfl
        have k1 : w4.cell? ⟨w.heap.size + 1, 1, none⟩ = some (.int .u64 h2) := by rw [cell_of_heap hbh4]; rfl
        have f0 : w4.frozen? ⟨w.heap.size + 1, 0, none⟩ = false := frozen_of_heap hbh4 _
        have f1 : w4.frozen? ⟨w.heap.size + 1, 1, none⟩ = false := frozen_of_heap hbh4 _
        have hq4 := heap_lt hbh4
        clear c0 c1 c2 c3 c4 c5 c6 c7 hqT hb4
        replace hbz4 := Lib.hid hbz4
        replace hbh4 := Lib.hid hbh4
        replace hB4 := Lib.hid hB4
        go_wp2_with fail
        go_roundg M2
        case rel =>
          obtain ⟨a1, a2, _⟩ := hcon.out w4 _ hB4.out (((Upd.refl (S := [w.heap.size, w.heap.size + 1]) w4).setCell (p := ⟨w.heap.size + 1, 0, none⟩) (by simp) (.int .i64 z.1)).setCell (p := ⟨w.heap.size + 1, 1, none⟩) (by simp) (.int .u64 z.2))
          refine ⟨s2, ρ2, j, z, lo', m, A', B', g3.out, rfl, g2.out, a1, a2, hr12.out, hr22.out, ?_, ?_⟩
          · rw [heap_set_other _ _ (by simp), heap_set_other _ _ (by simp)]
            exact hbz4.out
          · rw [heap_self, heap_self, hbh4.out]
            rfl
        case measure => have := hM.out; omega
end
end Go.Proofs.Ytlhobbfncjjeaaa
