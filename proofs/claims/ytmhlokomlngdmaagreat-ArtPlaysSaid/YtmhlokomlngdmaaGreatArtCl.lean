/- A trie's Check: the nodes below a node are counted, and found as they must be. A trie's Check. -/
import Derived.Test.YtmhlokomlngdmaaGreatArtTl
import Derived.Test.YtmhlokomlngdmaaGreatArtNe
import Derived.Test.YtmhlokomlngdmaaGreatHeldG
import Derived.Laws.EntriesVeiled
namespace Go.Proofs.YtmhlokomlngdmaaGreat
open Go.RowKit Go.Shelf
attribute [local go_sem] Oper.semAt_some
/-- Between two steps of Check: its boxes, and what it has counted. -/
structure CkI (w1 : World) (t tB NB HB FB : Nat) (W : World) (a b : Nat) : Prop where
  bel : Below w1.heap.size w1 W
  tb : W.heap[tB]? = some (.cells #[.pointer (some ⟨t, 0, none⟩)] 30)
  nb : W.heap[NB]? = some (.cells #[.int .i64 a] 3)
  hb : W.heap[HB]? = some (.cells #[.int .i64 b] 3)
  fb : W.heap[FB]? = some (.cells #[.func (.func 50) #[] #[.pointer (some ⟨tB, 0, none⟩), .pointer (some ⟨NB, 0, none⟩), .pointer (some ⟨HB, 0, none⟩), .pointer (some ⟨FB, 0, none⟩)]] 90)
  q : w1.heap.size ≤ tB ∧ w1.heap.size ≤ NB ∧ w1.heap.size ≤ HB ∧ w1.heap.size ≤ FB
  ne : NB ≠ HB
def CkEnd (w1 : World) (t tB NB HB FB : Nat) (W : World) (a b : Nat) (e : Ending) (W' : World) : Prop :=
  e = .returned (.bool true) ∧ CkI w1 t tB NB HB FB W' a b ∧ Upd [NB, HB] W W'
/-- How many nodes, and keys, are below some children. -/
def kidsN (F : AF) (p : Byt) (L : KL) : Nat := (L.map fun y => (nsub F (p ++ [y.1])).length).sum
theorem kidsN_len (F : AF) (p : Byt) : ∀ L : KL, kidsN F p L ≤ L.length * F.length
  | [] => by simp [kidsN]
  | y :: L => by
    have h := kidsN_len F p L
    unfold kidsN at h ⊢
    rw [List.map_cons, List.sum_cons, List.length_cons, Nat.add_mul]
    have h1 : (nsub F (p ++ [y.1])).length ≤ F.length := List.length_filter_le _ _
    omega
section
variable {w1 W W' W2 : World} {t tB NB HB FB a b : Nat}
theorem CkI.upd {S : List Nat} (h : CkI w1 t tB NB HB FB W a b) (hu : Upd S W W') (hb : ∀ q, q ∈ S → w1.heap.size ≤ q) (h1 : tB ∉ S) (h2 : NB ∉ S) (h3 : HB ∉ S) (h4 : FB ∉ S) : CkI w1 t tB NB HB FB W' a b :=
  ⟨h.bel.trans (hu.below h.bel.size hb), hu.heap h.tb h1, hu.heap h.nb h2, hu.heap h.hb h3, hu.heap h.fb h4, h.q, h.ne⟩
theorem CkI.below (h : CkI w1 t tB NB HB FB W a b) (hb : Below W.heap.size W W') : CkI w1 t tB NB HB FB W' a b :=
  ⟨h.bel.trans (hb.mono h.bel.size), Below.heap' hb h.tb, Below.heap' hb h.nb, Below.heap' hb h.hb, Below.heap' hb h.fb, h.q, h.ne⟩
theorem CkI.setN (h : CkI w1 t tB NB HB FB W a b) (a' : Nat) : CkI w1 t tB NB HB FB (W.setCell ⟨NB, 0, none⟩ (.int .i64 a')) a' b := by
  have hu : Upd [NB] W (W.setCell ⟨NB, 0, none⟩ (.int .i64 a')) := (Upd.refl _ _).setCell (p := ⟨NB, 0, none⟩) (by simp) _
  have e1 : tB ≠ NB := tag_ne h.tb h.nb (by decide)
  have e2 : FB ≠ NB := tag_ne h.fb h.nb (by decide)
  exact ⟨h.bel.trans (hu.below h.bel.size fun q hq => by rw [List.mem_singleton.1 hq]; exact h.q.2.1), hu.heap h.tb (by simp [e1]), heap_set_same h.nb 0 _, hu.heap h.hb (by simp [h.ne.symm]), hu.heap h.fb (by simp [e2]), h.q, h.ne⟩
theorem CkI.setH (h : CkI w1 t tB NB HB FB W a b) (b' : Nat) : CkI w1 t tB NB HB FB (W.setCell ⟨HB, 0, none⟩ (.int .i64 b')) a b' := by
  have hu : Upd [HB] W (W.setCell ⟨HB, 0, none⟩ (.int .i64 b')) := (Upd.refl _ _).setCell (p := ⟨HB, 0, none⟩) (by simp) _
  have e1 : tB ≠ HB := tag_ne h.tb h.hb (by decide)
  have e2 : FB ≠ HB := tag_ne h.fb h.hb (by decide)
  exact ⟨h.bel.trans (hu.below h.bel.size fun q hq => by rw [List.mem_singleton.1 hq]; exact h.q.2.2.1), hu.heap h.tb (by simp [e1]), hu.heap h.nb (by simp [h.ne]), heap_set_same h.hb 0 _, hu.heap h.fb (by simp [e2]), h.q, h.ne⟩
/-- Between two rounds over a node's children. -/
def CkJ (w1 : World) (t tB NB HB FB RB : Nat) (w4 w5 : World) (a b : Nat) (W : World) : Prop :=
  CkI w1 t tB NB HB FB W a b ∧ W.heap[RB]? = some (.cells #[.bool false] 4) ∧ w5.heap.size ≤ W.heap.size ∧ Upd [NB, HB] w4 W
theorem CkJ.own {RB : Nat} {w4 w5 : World} {β : Type} {ga gb : β → Nat} (hw : w1.heap.size ≤ w5.heap.size) (h45 : w4.heap.size ≤ w5.heap.size) : OwnFrom w5.heap.size (fun pre => CkJ w1 t tB NB HB FB RB w4 w5 (ga pre) (gb pre)) := fun pre W W' row h hg hr => by
  have hu := grown_upd hg
  have hr2 := fun r e => (hr r e).2
  obtain ⟨hD, hp, hs, hU⟩ := h
  have hge : ∀ q, q ∈ row.toList → w5.heap.size ≤ q := fun q hq => (hr q (by simpa using hq)).1
  exact ⟨hD.upd hu (fun q hq => Nat.le_trans hw (hge q hq)) (noCells hr2 hD.tb) (noCells hr2 hD.nb) (noCells hr2 hD.hb) (noCells hr2 hD.fb), hu.heap hp (noCells hr2 hp), Nat.le_trans hs hg.size, hU.via hu (fun q hq => .inr (Nat.le_trans h45 (hge q hq)))⟩
end
section
variable {w0 w1 W : World} {T : TS} {C : Cont} {tB NB HB FB a b : Nat}
theorem AT.len_le (h : AT w0 w1 T C) : T.F.length ≤ 4096 ∧ C.length ≤ 4096 := by
  have h1 := sub_count h.ok h.ct
  have h2 : (T.F.filter fun x => x.2.val.isSome).length ≤ T.F.length := List.length_filter_le _ _
  have h3 := h.am.freeLen
  omega
set_option maxRecDepth 100000 in
set_option maxHeartbeats 16000000 in
theorem ck_step (h : AT w0 w1 T C) {x : Hd × AN} (hx : x ∈ T.F) (hD : CkI w1 T.t tB NB HB FB W a b) (hL : a + (nsub T.F x.2.path).length * 1100000 ≤ 5000000000) (hM : b + (nsub T.F x.2.path).length * 1100000 ≤ 5000000000)
    (hRec : ∀ y m W a b, y ∈ x.2.kids → (y.2, m) ∈ T.F → a + (nsub T.F m.path).length * 1100000 ≤ 5000000000 → b + (nsub T.F m.path).length * 1100000 ≤ 5000000000 → CkI w1 T.t tB NB HB FB W a b →
      Calls Tryz.prog 50 #[hV y.2, .pointer (some ⟨tB, 0, none⟩), .pointer (some ⟨NB, 0, none⟩), .pointer (some ⟨HB, 0, none⟩), .pointer (some ⟨FB, 0, none⟩)] W (CkEnd w1 T.t tB NB HB FB W (a + (nsub T.F m.path).length) (b + (sub C m.path).length))) :
    Calls Tryz.prog 50 #[hV x.1, .pointer (some ⟨tB, 0, none⟩), .pointer (some ⟨NB, 0, none⟩), .pointer (some ⟨HB, 0, none⟩), .pointer (some ⟨FB, 0, none⟩)] W (CkEnd w1 T.t tB NB HB FB W (a + (nsub T.F x.2.path).length) (b + (sub C x.2.path).length)) := by
  obtain ⟨⟨g1, g2⟩, n⟩ := x
  have hA := h.below hD.bel
  obtain ⟨hbx, hby⟩ := heap_two W (.cells #[.int .i64 g1, .int .u64 g2] 77) (.cells #[.bool false] 4)
  have hBe := below_two W (.cells #[.int .i64 g1, .int .u64 g2] 77) (.cells #[.bool false] 4)
  have hnn := nsub_node h.ok hx
  have hsn : sub C n.path = vals n ++ kidsC C n.path n.kids := sub_node h.ok h.ct hx
  have hpos : 1 ≤ (nsub T.F n.path).length := by simp only at hnn; omega
  have hll := h.len_le
  replace h := Lib.hid h
  replace hRec := Lib.hid hRec
  replace hx := Lib.hid hx
  refine (callsIn_wide (n := 6)).1 ?_
  refine callsIn_of_wp_marks Tryz.func50 rfl trivial (wpIn_wide.2 ?_) rfl
  simp only [Tryz.ntmps50, List.size_toArray, List.length_cons, List.length_nil, Nat.reduceAdd, Nat.reduceSub, Array.replicate_succ, Array.replicate_zero, List.push_toArray, List.append_toArray, List.nil_append, List.cons_append]
  go_upto_region 1 with fail
  generalize (W.alloc (.cells #[.int .i64 g1, .int .u64 g2] 77)).alloc (.cells #[.bool false] 4) = W0 at *
  obtain ⟨k0, k1, kq, _⟩ := cells2 hbx
  have hD0 := hD.below hBe
  have hA0 := hA.below hBe
  obtain ⟨e, e1, e2, e3, e4, hG⟩ := hA0.am.get hx.out
  have hGd := hG W0.drew bel_dw
  have t0 : W0.cell? ⟨tB, 0, none⟩ = some (.pointer (some ⟨T.t, 0, none⟩)) := by rw [cell_of_heap hD0.tb]; rfl
  have tq := heap_lt hD0.tb
  obtain ⟨_, c1, c2, c3, _, _, cq⟩ := hA0.am.cells
  obtain ⟨RB, hRB⟩ : ∃ RB, RB = W.heap.size + 1 := ⟨_, rfl⟩
  rw [← hRB] at hby ⊢
  obtain ⟨eb, heb⟩ : ∃ eb, eb = e.blk := ⟨_, rfl⟩
  rw [← heb] at e4 hGd
  have heb1 : eb < w1.heap.size := by rw [heb]; exact heap_lt (h.out.am.bw.cellsOf h.out.am.hd h.out.am.tc e1)
  replace hD0 := Lib.hid hD0
  replace hD := Lib.hid hD
  replace hA := Lib.hid hA
  replace hA0 := Lib.hid hA0
  replace hbx := Lib.hid hbx
  replace hby := Lib.hid hby
  replace hBe := Lib.hid hBe
  replace hL := Lib.hid hL
  replace hM := Lib.hid hM
  replace hRB := Lib.hid hRB
  replace heb := Lib.hid heb
  replace e4 := Lib.hid e4
  replace hnn := Lib.hid hnn
  replace hsn := Lib.hid hsn
  replace hpos := Lib.hid hpos
  replace hll := Lib.hid hll
  replace hGd := Lib.hid hGd
  clear hG e1 e2 e3
  go_cut [7, 8] from 11 to 19 (fun v7 v8 wz => v7 = .pointer (some ⟨eb, 1, none⟩) ∧ v8 = .bool true ∧ Below W0.heap.size W0 wz)
  case first =>
    refine wp_calm ?_
    go_region_held3 (fun W' => W'.cell? ⟨tB, 0, none⟩ = some (.pointer (some ⟨T.t, 0, none⟩)) ∧ W'.cell? ⟨T.t, 1, none⟩ = some (.pointer (some ⟨T.d.A.a, 0, none⟩)) ∧ W'.cell? ⟨W.heap.size, 0, none⟩ = some (.int .i64 g1) ∧ W'.cell? ⟨W.heap.size, 1, none⟩ = some (.int .u64 g2)) (first | exact ⟨t0, c1, k0, k1⟩ | exact ⟨i0, i1, i2, i3⟩ | go_keep) (first
      | (go_at_call 51; refine hGd.out.mono ?_; rintro z w2 ⟨rfl, hb2⟩; have hb3 : Below W0.heap.size W0 w2 := bel_dr (k := 1) hb2; have i0 := keep hb3 t0; have i1 := keep hb3 c1; have i2 := keep hb3 k0; have i3 := keep hb3 k1; replace hb2 := Lib.hid hb2; replace hb3 := Lib.hid hb3))
    all_goals
      go_wp2_with fail
      go_meet
      exact ⟨rfl, rfl, hb3.out⟩
  case rest =>
    obtain ⟨rfl, rfl, hb2⟩ := hcut
    obtain ⟨w2, hw2⟩ : ∃ w2, w2 = wc := ⟨_, rfl⟩
    rw [← hw2] at hb2 ⊢
    clear hw2 t0 tq c1 c2 c3 cq k0 k1 kq
    have hD2 := hD0.out.below hb2
    have hby2 := Below.heap' hb2 hby.out
    have hbx2 := Below.heap' hb2 hbx.out
    have e42 := Below.heap' hb2 e4.out
    have hPw : W.heap.size < RB := by rw [hRB.out]; exact Nat.lt_succ_self _
    have hPw1 : w1.heap.size ≤ RB := by
      have := hD.out.bel.size
      omega
    have q0 : w2.cell? ⟨NB, 0, none⟩ = some (.int .i64 a) := by rw [cell_of_heap hD2.nb]; rfl
    have qq := heap_lt hD2.nb
    have qf := fun i => frozen_of_heap hD2.nb i
    have hwa : IntKind.i64.wrap ((a : Int) + 1) = (a : Int) + 1 := IntWalk.i64_in _ (by have := hL.out; omega)
    have hD3 := hD2.setN (a + 1)
    have hu3 : Upd [NB] w2 (w2.setCell ⟨NB, 0, none⟩ (.int .i64 ((a + 1 : Nat) : Int))) := (Upd.refl [NB] _).setCell (p := ⟨NB, 0, none⟩) (by simp) _
    rw [show ((a + 1 : Nat) : Int) = (a : Int) + 1 from rfl] at hD3 hu3
    have hNW := heap_lt hD.out.nb
    have hby3 := hu3.heap hby2 (fun hm => by simp at hm; omega)
    have hbx3 := hu3.heap hbx2 (fun hm => by simp at hm; omega)
    have e43 := hu3.heap e42 (fun hm => by have := hD.out.q.2.1; simp at hm; omega)
    have hU3 : Upd [NB, HB] W (w2.setCell ⟨NB, 0, none⟩ (.int .i64 ((a : Int) + 1))) := (Upd.of_below (hBe.out.trans (hb2.mono hBe.out.size))).trans (hu3.mono (by simp))
    replace hD2 := Lib.hid hD2
    replace hD3 := Lib.hid hD3
    replace hu3 := Lib.hid hu3
    replace hby2 := Lib.hid hby2
    replace hbx2 := Lib.hid hbx2
    replace e42 := Lib.hid e42
    replace hby3 := Lib.hid hby3
    replace hbx3 := Lib.hid hbx3
    replace e43 := Lib.hid e43
    replace hU3 := Lib.hid hU3
    replace hb2 := Lib.hid hb2
    go_upto_region 5 with fail
    generalize w2.setCell ⟨NB, 0, none⟩ (.int .i64 ((a : Int) + 1)) = w3 at *
    obtain ⟨n1, n2, n3, n4, nq, nf⟩ := nx_cells e43.out
    clear q0 qq qf hwa hD2 hby2 hbx2 e42 hb2
    go_upto_if 27 with fail
    go_cut [] from 20 to 29 (fun wz => CkI w1 T.t tB NB HB FB wz (a + 1) (b + (vals n).length) ∧ Upd [HB] w3 wz)
    case first =>
      cases hv : n.val with
      | none =>
        have hvl : Hid ((vals n).length = 0) := Lib.hid (by unfold vals; rw [hv]; rfl)
        rw [hv] at n3
        simp only [Option.isSome_none] at n3
        replace hv := Lib.hid hv
        go_wp2_with fail
        go_meet
        exact ⟨by rw [hvl.out]; exact hD3.out, Upd.refl _ _⟩
      | some u =>
        have hvl : Hid ((vals n).length = 1) := Lib.hid (by unfold vals; rw [hv]; rfl)
        rw [hv] at n3
        simp only [Option.isSome_some] at n3
        have q0 : w3.cell? ⟨HB, 0, none⟩ = some (.int .i64 b) := by rw [cell_of_heap hD3.out.hb]; rfl
        have qq := heap_lt hD3.out.hb
        have qf := fun i => frozen_of_heap hD3.out.hb i
        have hwa : IntKind.i64.wrap ((b : Int) + 1) = (b : Int) + 1 := IntWalk.i64_in _ (by have := hM.out; omega)
        replace hv := Lib.hid hv
        go_wp2_with fail
        go_meet
        exact ⟨by rw [hvl.out]; exact hD3.out.setH (b + 1), (Upd.refl [HB] _).setCell (p := ⟨HB, 0, none⟩) (by simp) _⟩
    case rest =>
      obtain ⟨hD4, hU4⟩ := hcut
      obtain ⟨w4, hw4⟩ : ∃ w4, w4 = wc := ⟨_, rfl⟩
      rw [← hw4] at hD4 hU4 ⊢
      clear hw4 n1 n2 n3 n4 nq nf
      have hHW := heap_lt hD.out.hb
      have hby4 := hU4.heap hby3.out (fun hm => by simp at hm; omega)
      have hbx4 := hU4.heap hbx3.out (fun hm => by simp at hm; omega)
      have e44 := hU4.heap e43.out (fun hm => by have := hD.out.q.2.2.1; simp at hm; omega)
      obtain ⟨n1, n2, n3, n4, nq, nf⟩ := nx_cells e44
      have hA4 := h.out.below hD4.bel
      obtain ⟨_, c1, c2, c3, _, _, cq⟩ := hA4.am.cells
      obtain ⟨k0, k1, kq, _⟩ := cells2 hbx4
      have t0 : w4.cell? ⟨tB, 0, none⟩ = some (.pointer (some ⟨T.t, 0, none⟩)) := by rw [cell_of_heap hD4.tb]; rfl
      have tq := heap_lt hD4.tb
      obtain ⟨Bk, hBk⟩ := hA4.am.kidsAt (nb := n.nb) (L := n.kids) (h.out.am.kid _ hx.out)
      have hks := h.out.ok.srt _ hx.out
      have hLen : Hid (∀ W, Below w4.heap.size w4 W → Calls Tryz.prog 52 #[.pointer (some ⟨n.nb, 0, none⟩)] W fun e w' => e = .returned (.int .i64 n.kids.length) ∧ w' = W) := Lib.hid fun W hW => (anLen_any (hBk.below hW)).mono fun e w' ⟨a, b⟩ => ⟨a, b.symm⟩
      replace hks := Lib.hid hks
      replace hD4 := Lib.hid hD4
      replace hU4 := Lib.hid hU4
      replace hby4 := Lib.hid hby4
      replace hbx4 := Lib.hid hbx4
      replace e44 := Lib.hid e44
      replace hA4 := Lib.hid hA4
      replace hBk := Lib.hid hBk
      go_upto_region 7 with fail
      go_cut [65] from 30 to 65 (fun v65 wz => v65 = .bool false ∧ Below w4.heap.size w4 wz)
      case first =>
        refine wp_calm ?_
        by_cases hroot : (g1, g2) = T.r
        · have r1 : T.r.1 = g1 := by rw [← hroot]
          have r2 : T.r.2 = g2 := by rw [← hroot]
          rw [r1] at c2
          rw [r2] at c3
          have hpre : n.pre = ⟨#[]⟩ := (h.out.ok.root_pre hx.out hroot).1
          rw [hpre] at n1
          replace hroot := Lib.hid hroot
          replace hpre := Lib.hid hpre
          clear r1 r2
          go_quiet (fail)
          go_wp2_with fail
          go_meet
          exact ⟨rfl, below_drewN (Below.refl _ _) _⟩
        · obtain ⟨r1, hr1⟩ : ∃ r1, r1 = T.r.1 := ⟨_, rfl⟩
          obtain ⟨r2, hr2⟩ : ∃ r2, r2 = T.r.2 := ⟨_, rfl⟩
          rw [← hr1] at c2
          rw [← hr2] at c3
          have hdiff : (g1 == r1) = false ∨ ((g1 == r1) = true ∧ (g2 == r2) = false) := by
            by_cases h1 : g1 = r1
            · exact .inr ⟨by simpa using h1, by
                have : ¬ g2 = r2 := fun h2 => hroot (Prod.ext (h1.trans hr1) (h2.trans hr2))
                simpa using this⟩
            · exact .inl (by simpa using h1)
          have hnm := (h.out.nm _ hx.out).resolve_left hroot
          obtain ⟨nl, hnl⟩ : ∃ nl, nl = n.kids.length := ⟨_, rfl⟩
          obtain ⟨nh, hnh⟩ : ∃ nh, nh = n.val.isSome := ⟨_, rfl⟩
          have hL := hLen.out
          rw [← hnl] at hL
          rw [← hnh] at n3
          simp only at hnm
          rw [← hnl, ← hnh] at hnm
          have hL := Lib.hid hL
          replace hnl := Lib.hid hnl
          replace hnh := Lib.hid hnh
          replace hr1 := Lib.hid hr1
          replace hr2 := Lib.hid hr2
          replace hroot := Lib.hid hroot
          rcases hdiff with h1 | ⟨h1, h2⟩
          all_goals
            cases nh with
            | true =>
              clear hnm
              go_quiet (fail)
              go_wp2_with fail
              go_meet
              exact ⟨rfl, below_drewN (Below.refl _ _) _⟩
            | false =>
              have h2l : 2 ≤ nl := hnm.resolve_left (by simp)
              have hl3 : ¬ (nl : Int) < 2 := by omega
              clear hnm
              go_quiet ((go_at_call 52; exact Calls.quiet_of_same (hL.out _ (below_drewN (Below.refl _ _) _))))
              go_wp2_with fail
              go_meet
              exact ⟨rfl, below_drewN (Below.refl _ _) _⟩
      case rest =>
        obtain ⟨rfl, hb5⟩ := hcut
        obtain ⟨wa, hwa⟩ : ∃ wa, wa = wc := ⟨_, rfl⟩
        rw [← hwa] at hb5 ⊢
        clear hwa t0 tq c1 c2 c3 cq k0 k1 kq n1 n2 n3 n4 nq nf
        have hDa := hD4.out.below hb5
        have e4a := Below.heap' hb5 e44.out
        have hbya := Below.heap' hb5 hby4.out
        have hAll := anAll_any (hBk.out.below hb5)
        obtain ⟨n1, n2, n3, n4, nq, nf⟩ := nx_cells e4a
        replace hDa := Lib.hid hDa
        replace e4a := Lib.hid e4a
        replace hbya := Lib.hid hbya
        replace hb5 := Lib.hid hb5
        clear n1 n2 n3
        go_wp2_with fail
        refine hAll.mono ?_
        clear hAll
        rintro e5 w5 ⟨kx, hx', va, vh, rfl, hM'⟩
        go_upto_block 0 with fail
        have hb45 := hM'.bel
        have hBq : ∀ q, q ∈ bkL kx hx' va vh → wa.heap.size ≤ q ∧ q < w5.heap.size := fun q hq => by
          unfold bkL at hq
          rcases List.mem_cons.1 hq with rfl | hq
          · exact ⟨hM'.lx.1, heap_lt hM'.bk⟩
          · rcases List.mem_cons.1 hq with rfl | hq
            · exact ⟨hM'.lx.2, heap_lt hM'.bh⟩
            · rcases List.mem_append.1 hq with hq | hq
              · exact hM'.ky.lt q (by simpa using hq)
              · exact hM'.kd.lt q (by simpa using hq)
        have hkl := ks_len hks.out
        have hstop := anAll1_stopsM Fence.wide 5 trivial rfl (by omega) hM' (by omega)
        have hw15 : w1.heap.size ≤ w5.heap.size := Nat.le_trans hDa.out.bel.size hb45.size
        have hown : OwnFrom w5.heap.size (fun pre : List { y : UInt8 × Hd // y ∈ n.kids } => CkJ w1 T.t tB NB HB FB RB wa w5 (a + 1 + kidsN T.F n.path (pre.map (·.1))) (b + (vals n).length + (kidsC C n.path (pre.map (·.1))).length) ) := CkJ.own hw15 hb45.size
        have hI0 : CkJ w1 T.t tB NB HB FB RB wa w5 (a + 1 + kidsN T.F n.path []) (b + (vals n).length + (kidsC C n.path []).length) w5 := ⟨hDa.out.below hb45, Below.heap' hb45 hbya.out, Nat.le_refl _, Upd.of_below hb45⟩
        replace hI0 := Lib.hid hI0
        replace hM' := Lib.hid hM'
        refine wp_block ?_
        refine (wpIn_wide (n := 6)).1 ?_
        refine wpIn_rangeFunc_ownH (a := _) (w := w5) rfl (by omega) (gf := 67) (lb := #[.pointer (some ⟨kx, 0, none⟩), .pointer (some ⟨hx', 0, none⟩)]) rfl trivial (enters_of Tryz.func67 (by kernel_rfl) rfl) hstop KpL.trans (fun W l o o' h1 _ _ _ => KpL.putObj (fun q hq => (hBq q hq).2) W l o' h1) (Below.refl _ _) (fun _ => rfl)
          (fun pre : List { y : UInt8 × Hd // y ∈ n.kids } => CkJ w1 T.t tB NB HB FB RB wa w5 (a + 1 + kidsN T.F n.path (pre.map (·.1))) (b + (vals n).length + (kidsC C n.path (pre.map (·.1))).length)) (fun _ _ _ => False) hown (fun _ _ _ _ _ hs _ _ => hs) hI0.out
          (fun y a' V => ∃ Bx, w5.heap.size ≤ Bx ∧ V.heap[Bx]? = some (.cells #[.int .i64 y.1.2.1, .int .u64 y.1.2.2] 77) ∧ a' = { tmps := #[hV (g1, g2), .pointer (some ⟨tB, 0, none⟩), .pointer (some ⟨NB, 0, none⟩), .pointer (some ⟨HB, 0, none⟩), .pointer (some ⟨FB, 0, none⟩), .pointer (some ⟨W.heap.size, 0, none⟩), .pointer (some ⟨RB, 0, none⟩), .pointer (some ⟨eb, 1, none⟩), .bool true, undef, .pointer (some ⟨Bx, 0, none⟩), u11, u12, u13, u14, u15, u16, u17, u18, u19, u20, u21, u22, u23, u24, u25, u26, u27, u28, u29, u30, u31, u32, u33, u34, u35, u36, u37, u38, u39, u40, u41, u42, u43, u44, u45, u46, u47, u48, u49, u50, u51, u52, u53, u54, u55, u56, u57, u58, u59, u60, u61, u62, u63, u64, .bool false, .pointer (some ⟨eb, 1, none⟩), .pointer (some ⟨eb, 1, none⟩), .pointer (some ⟨eb, 4, none⟩), .pointer (some ⟨n.nb, 0, none⟩), .func (.func 67) #[] #[.pointer (some ⟨kx, 0, none⟩), .pointer (some ⟨hx', 0, none⟩)], .int .u8 y.1.1.toNat, hV y.1.2, undef, undef, undef, undef], defers := [] })
          (fun y a' _ X Y row hs hg hr => by obtain ⟨Bx, h1, h2, h3⟩ := hs; exact ⟨Bx, h1, (grown_upd hg).heap h2 (noCells (fun r e => (hr r e).2) h2), h3⟩)
          ?assign ?body ?done ?stop
        case assign =>
          intro l pre y V K hI hK
          have hal : Below V.heap.size V (V.alloc (.cells #[.int .i64 y.1.2.1, .int .u64 y.1.2.2] 77)) := (Below.refl _ _).alloc (Nat.le_refl _) _
          have hal2 : Upd [] V (V.alloc (.cells #[.int .i64 y.1.2.1, .int .u64 y.1.2.2] 77)) := Upd.of_below hal
          gi_wp2
          refine hK _ _ ((KeepsOthers.alloc _ _).from _) (fun q hq => hal2.block q (Nat.lt_of_lt_of_le (hBq q hq).2 hI.2.2.1) (by simp)) ?_ ⟨V.heap.size, hI.2.2.1, heap_alloc_new _ _, rfl⟩
          obtain ⟨hDV, hpV, hsV, hUV⟩ := hI
          exact ⟨hDV.below hal, Below.heap' hal hpV, Nat.le_trans hsV hal.size, hUV.trans (Upd.of_below hal)⟩
        case body =>
          rintro l pre ⟨⟨yb, yh⟩, hym⟩ a' V hl0 ⟨r, hr⟩ hI ⟨Bx, hBx, hbox, rfl⟩ hlt
          obtain ⟨hDV, hpV, hsV, hUV⟩ := hI
          obtain ⟨m, hm1, hm2⟩ := h.out.ok.dn _ hx.out _ hym
          have hns := nsub_lt h.out.ok hx.out hym hm1
          have hlp : (pre.map (·.1)).length ≤ 256 := by rw [List.length_map]; omega
          have hk1 : kidsN T.F n.path (pre.map (·.1)) ≤ 256 * 4096 := Nat.le_trans (kidsN_len _ _ _) (Nat.mul_le_mul hlp hll.out.1)
          have hk2 : (kidsC C n.path (pre.map (·.1))).length ≤ 256 * 4096 := Nat.le_trans (kidsC_len _ _ _) (Nat.mul_le_mul hlp hll.out.2)
          have hpa : a + 1 + kidsN T.F n.path (pre.map (·.1)) + (nsub T.F m.path).length * 1100000 ≤ 5000000000 := by
            have h1 := hL.out
            simp only at hns h1
            omega
          have hpb : b + (vals n).length + (kidsC C n.path (pre.map (·.1))).length + (nsub T.F m.path).length * 1100000 ≤ 5000000000 := by
            have h1 := hM.out
            have h2 := vals_len n
            simp only at hns h1
            omega
          have hc := hRec.out (yb, yh) m _ _ _ hym hm1 hpa hpb hDV
          have hfin : Hid (∀ V', CkI w1 T.t tB NB HB FB V' (a + 1 + kidsN T.F n.path (pre.map (·.1)) + (nsub T.F m.path).length) (b + (vals n).length + (kidsC C n.path (pre.map (·.1))).length + (sub C m.path).length) → Upd [NB, HB] V V' →
              KeepsFrom w5.heap.size V V' ∧ KpL (bkL kx hx' va vh) V V' ∧ CkJ w1 T.t tB NB HB FB RB wa w5 (a + 1 + kidsN T.F n.path ((pre ++ [(⟨(yb, yh), hym⟩ : { y : UInt8 × Hd // y ∈ n.kids })]).map (·.1))) (b + (vals n).length + (kidsC C n.path ((pre ++ [(⟨(yb, yh), hym⟩ : { y : UInt8 × Hd // y ∈ n.kids })]).map (·.1))).length) V') := Lib.hid fun V' h1 hu => by
            have hN := heap_lt hDa.out.nb
            have hH := heap_lt hDa.out.hb
            refine ⟨below_keepsFrom hu fun q hq => ?_, fun q hq => hu.block q (Nat.lt_of_lt_of_le (hBq q hq).2 hsV) fun hm => ?_, ?_, hu.heap hpV fun hm => ?_, Nat.le_trans hsV hu.size, hUV.trans hu⟩
            · simp at hq
              rcases hq with rfl | rfl
              · exact ⟨_, _, hDV.nb⟩
              · exact ⟨_, _, hDV.hb⟩
            · have hq1 := hBq q hq
              simp at hm
              omega
            · have hk : kidsC C n.path ((pre ++ [(⟨(yb, yh), hym⟩ : { y : UInt8 × Hd // y ∈ n.kids })]).map (·.1)) = kidsC C n.path (pre.map (·.1)) ++ sub C m.path := by
                unfold kidsC
                rw [List.map_append, List.flatMap_append]
                congr 1
                simp only [List.map_cons, List.map_nil, List.flatMap_cons, List.flatMap_nil, List.append_nil]
                exact sub_kid h.out.ok h.out.ct hx.out hym hm1
              have hn : kidsN T.F n.path ((pre ++ [(⟨(yb, yh), hym⟩ : { y : UInt8 × Hd // y ∈ n.kids })]).map (·.1)) = kidsN T.F n.path (pre.map (·.1)) + (nsub T.F m.path).length := by
                unfold kidsN
                rw [List.map_append, List.map_append, List.sum_append]
                congr 1
                simp only [List.map_cons, List.map_nil, List.sum_cons, List.sum_nil, Nat.add_zero]
                exact congrArg List.length (nsub_kid h.out.ok hx.out hym hm1)
              rw [hk, hn, List.length_append, ← Nat.add_assoc, ← Nat.add_assoc]
              exact h1
            · simp at hm
              omega
          have f0 : V.cell? ⟨FB, 0, none⟩ = some (.func (.func 50) #[] #[.pointer (some ⟨tB, 0, none⟩), .pointer (some ⟨NB, 0, none⟩), .pointer (some ⟨HB, 0, none⟩), .pointer (some ⟨FB, 0, none⟩)]) := by rw [cell_of_heap hDV.fb]; rfl
          have fq := heap_lt hDV.fb
          obtain ⟨z0, z1⟩ := box2 hbox
          have zl := heap_lt hbox
          replace hc := Lib.hid hc
          clear hI0 hM' hown hstop hbox hpV hUV hr hlt hns hm2 hk1 hk2 hpa hpb hDV
          gi_wp2
          refine ⟨trivial, (CallsIn.inRound l (callsIn_wide.2 hc.out)).mono ?_⟩
          clear hc
          rintro e6 V' ⟨rfl, h1, h2⟩
          have hf := Lib.hid (hfin.out V' h1 h2)
          clear h1 h2 hfin
          gi_wp2
          exact hf.out
        case done =>
          rintro D xs W6 hDD hS hI hK
          obtain ⟨hDV, hpV, hsV, hUV⟩ := hI
          have hS' : xs.map (·.1) = n.kids := hS
          rw [hS'] at hDV
          have hrow : ∀ r, (some D : Option Nat) = some r → ∃ o : Obj, W6.heap[r]? = some o ∧ o.isCells = false := fun r e => by
            injection e with e
            subst e
            exact ⟨_, hK, rfl⟩
          have hn1 : w1.heap.size ≤ D := Nat.le_trans hw15 hDD
          have hRD : RB ≠ D := fun e => by rw [← e, hpV] at hK; cases hK
          have r0 : W6.cell? ⟨RB, 0, none⟩ = some (.bool false) := by rw [cell_of_heap hpV]; rfl
          have rq := heap_lt hpV
          have rf := fun i => frozen_of_heap hpV i
          have hK2 : (W6.setCell ⟨RB, 0, none⟩ (.bool true)).heap[D]? = some (.deferred (some [])) := by rw [heap_set_other _ _ (by simpa using Ne.symm hRD)]; exact hK
          have hfin : Hid (∀ o, CkEnd w1 T.t tB NB HB FB W (a + (nsub T.F n.path).length) (b + (sub C n.path).length) (.returned (.bool true)) ((W6.setCell ⟨RB, 0, none⟩ (.bool true)).putObj D o) ∧ ((W6.setCell ⟨RB, 0, none⟩ (.bool true)).putObj D o).cell? ⟨RB, 0, none⟩ = some (.bool true)) := Lib.hid fun o => by
            have hu : Upd [D, RB] W6 ((W6.setCell ⟨RB, 0, none⟩ (.bool true)).putObj D o) := ((Upd.refl [D, RB] W6).setCell (p := ⟨RB, 0, none⟩) (by simp) _).trans ((grown_upd (grownBy_putObj' (W6.setCell ⟨RB, 0, none⟩ (.bool true)) D o)).mono (by simp))
            have nc : ∀ {q c ty}, W6.heap[q]? = some (.cells c ty) → ty ≠ 4 → q ∉ [D, RB] := fun {q c ty} hq ht hm => by
              simp at hm
              rcases hm with rfl | rfl
              · rw [hK] at hq; cases hq
              · exact tag_ne hq hpV ht rfl
            have hWwa : W.heap.size ≤ wa.heap.size := Nat.le_trans hU3.out.size (Nat.le_trans hU4.out.size hb5.out.size)
            refine ⟨⟨rfl, ?_, ?_⟩, ?_⟩
            · rw [hsn.out, hnn.out, List.length_append, ← Nat.add_assoc, ← Nat.add_assoc]
              exact hDV.upd hu (fun q hq => by simp at hq; rcases hq with rfl | rfl <;> first | exact hn1 | exact hPw1) (nc hDV.tb (by decide)) (nc hDV.nb (by decide)) (nc hDV.hb (by decide)) (nc hDV.fb (by decide))
            · have h4 : Upd [NB, HB] W w4 := hU3.out.trans (hU4.out.mono (by simp))
              have h5 := h4.trans (Upd.of_below (S := [NB, HB]) hb5.out)
              exact (h5.trans hUV).via hu (fun q hq => .inr (by
                simp at hq
                rcases hq with rfl | rfl
                · exact Nat.le_trans hWwa (Nat.le_trans hb45.size hDD)
                · exact Nat.le_of_lt hPw))
            · rw [cell_of_heap (show ((W6.setCell ⟨RB, 0, none⟩ (.bool true)).putObj D o).heap[RB]? = some (.cells #[.bool true] 4) by rw [World.putObj_heap_other hRD]; exact heap_set_same hpV 0 _)]
              rfl
          clear hI0 hM' hown hstop hpV hUV hDV hBq hRec
          go_wp2_with fail
          refine ⟨by simp, .inl ⟨_, _, rfl, run_takeDeferred hK2, ?_⟩⟩
          exact ⟨.bool true, by simp [results, Tryz.results50, go_sem, (hfin.out _).2], (hfin.out _).1⟩
        case stop =>
          rintro D c pre W6 _ _ hx6 _
          exact hx6.elim
theorem ck_any (h : AT w0 w1 T C) : ∀ N, ∀ x, x ∈ T.F → (nsub T.F x.2.path).length < N → ∀ W a b, a + (nsub T.F x.2.path).length * 1100000 ≤ 5000000000 → b + (nsub T.F x.2.path).length * 1100000 ≤ 5000000000 → CkI w1 T.t tB NB HB FB W a b →
    Calls Tryz.prog 50 #[hV x.1, .pointer (some ⟨tB, 0, none⟩), .pointer (some ⟨NB, 0, none⟩), .pointer (some ⟨HB, 0, none⟩), .pointer (some ⟨FB, 0, none⟩)] W (CkEnd w1 T.t tB NB HB FB W (a + (nsub T.F x.2.path).length) (b + (sub C x.2.path).length)) := by
  intro N
  induction N with
  | zero => intro x _ h0; omega
  | succ N ih =>
    intro x hx hN W a b hL hM hD
    refine ck_step h hx hD hL hM fun y m W' a' b' hy hm hL' hM' hD' => ?_
    have := nsub_lt h.ok hx hy hm
    exact ih (y.2, m) hm (by simp only; omega) W' a' b' hL' hM' hD'
end
end Go.Proofs.YtmhlokomlngdmaaGreat
namespace Go.Proofs.YtmhlokomlngdmaaGreat
open Go.RowKit
section
variable {w0 w : World} {T : TS} {C : Cont}
set_option maxRecDepth 100000 in
set_option maxHeartbeats 4000000 in
theorem AT.check (h : AT w0 w T C) : Calls Tryz.prog 22 #[.pointer (some ⟨T.t, 0, none⟩)] w fun e w' => e = .returned (.bool true) ∧ Below w.heap.size w w' := by
  obtain ⟨rn, hrn, hrp, hrs⟩ := h.ok.root
  have hsz := h.sz
  have hbx := heap_alloc_new w (.cells #[.pointer (some ⟨T.t, 0, none⟩)] 30)
  have hBe : Below w.heap.size w (w.alloc (.cells #[.pointer (some ⟨T.t, 0, none⟩)] 30)) := (Below.refl _ _).alloc (Nat.le_refl _) _
  replace h := Lib.hid h
  go_enter Tryz.func22, Tryz.ntmps22
  go_upto_region 1 with fail
  generalize w.alloc (.cells #[.pointer (some ⟨T.t, 0, none⟩)] 30) = W0 at *
  obtain ⟨_, c1, c2, c3, _, c5, hq⟩ := (h.out.below hBe).am.cells
  have hO := out_ok c1 c5
  have t0 : W0.cell? ⟨w.heap.size, 0, none⟩ = some (.pointer (some ⟨T.t, 0, none⟩)) := by rw [cell_of_heap hbx]; rfl
  have tq := heap_lt hbx
  replace hbx := Lib.hid hbx
  replace hBe := Lib.hid hBe
  clear c1 c5
  go_wp2_with fail
  refine hO.mono ?_
  clear hO
  rintro e w1 ⟨rfl, rfl⟩
  go_upto_region 4 with fail
  obtain ⟨hn1, hh1⟩ := heap_two W0 (.cells #[.int .i64 0] 3) (.cells #[.int .i64 0] 3)
  have hB2 := below_two W0 (.cells #[.int .i64 0] 3) (.cells #[.int .i64 0] 3)
  generalize (W0.alloc (.cells #[.int .i64 0] 3)).alloc (.cells #[.int .i64 0] 3) = W2 at *
  obtain ⟨NB, hNB⟩ : ∃ NB, NB = W0.heap.size := ⟨_, rfl⟩
  obtain ⟨HB, hHB⟩ : ∃ HB, HB = W0.heap.size + 1 := ⟨_, rfl⟩
  rw [← hNB] at hn1
  rw [← hHB] at hh1 ⊢
  rw [← hNB] at ⊢
  have hNH : NB ≠ HB := by omega
  have hNw : w.heap.size ≤ NB := by rw [hNB]; exact hBe.out.size
  have hHw : w.heap.size ≤ HB := by omega
  have hbx2 := Below.heap' hB2 hbx.out
  replace hNB := Lib.hid hNB
  replace hHB := Lib.hid hHB
  go_upto_region 6 with fail
  have hFn := heap_alloc_new W2 (.cells #[.func (.func 50) #[] #[.pointer (some ⟨w.heap.size, 0, none⟩), .pointer (some ⟨NB, 0, none⟩), .pointer (some ⟨HB, 0, none⟩), .pointer (some ⟨W2.heap.size, 0, none⟩)]] 90)
  have hBf : Below W2.heap.size W2 (W2.alloc (.cells #[.func (.func 50) #[] #[.pointer (some ⟨w.heap.size, 0, none⟩), .pointer (some ⟨NB, 0, none⟩), .pointer (some ⟨HB, 0, none⟩), .pointer (some ⟨W2.heap.size, 0, none⟩)]] 90)) := (Below.refl _ _).alloc (Nat.le_refl _) _
  generalize W2.alloc (.cells #[.func (.func 50) #[] #[.pointer (some ⟨w.heap.size, 0, none⟩), .pointer (some ⟨NB, 0, none⟩), .pointer (some ⟨HB, 0, none⟩), .pointer (some ⟨W2.heap.size, 0, none⟩)]] 90) = W1 at *
  have hFq : w.heap.size ≤ W2.heap.size := Nat.le_trans hBe.out.size hB2.size
  obtain ⟨FB, hFB⟩ : ∃ FB, FB = W2.heap.size := ⟨_, rfl⟩
  rw [← hFB] at hFn hFq ⊢
  replace hFB := Lib.hid hFB
  have hB1 := hBe.out.trans ((hB2.trans (hBf.mono hB2.size)).mono hBe.out.size)
  have hbx1 := Below.heap' hBf hbx2
  have hD : CkI w T.t w.heap.size NB HB FB W1 0 0 := ⟨hB1, hbx1, Below.heap' hBf hn1, Below.heap' hBf hh1, hFn, ⟨Nat.le_refl _, hNw, hHw, hFq⟩, hNH⟩
  have hA1 := h.out.below hB1
  clear c2 c3 hq t0 tq
  obtain ⟨_, c1, c2, c3, c4, _, hq⟩ := hA1.am.cells
  have t0 : W1.cell? ⟨w.heap.size, 0, none⟩ = some (.pointer (some ⟨T.t, 0, none⟩)) := by rw [cell_of_heap hbx1]; rfl
  have tq := heap_lt hbx1
  have f0 : W1.cell? ⟨FB, 0, none⟩ = some (.func (.func 50) #[] #[.pointer (some ⟨w.heap.size, 0, none⟩), .pointer (some ⟨NB, 0, none⟩), .pointer (some ⟨HB, 0, none⟩), .pointer (some ⟨FB, 0, none⟩)]) := by rw [cell_of_heap hFn]; rfl
  have fq := heap_lt hFn
  have hsubr : sub C rn.path = C := by rw [hrp]; exact sub_nil
  have hnsr : nsub T.F rn.path = T.F := by rw [hrp]; exact List.filter_eq_self.2 fun _ _ => rfl
  have hC := Lib.hid fun W (hW : Below W1.heap.size W1 W) => ck_any h.out ((nsub T.F rn.path).length + 1) (T.r, rn) hrn (Nat.lt_succ_self _) W 0 0 (by
      have h1 := nsub_le T.F rn.path
      have h2 := h.out.am.freeLen
      show 0 + (nsub T.F rn.path).length * 1100000 ≤ 5000000000
      omega) (by
      have h1 := nsub_le T.F rn.path
      have h2 := h.out.am.freeLen
      show 0 + (nsub T.F rn.path).length * 1100000 ≤ 5000000000
      omega) (hD.below hW)
  have hLv := Lib.hid fun W (hW : Below w.heap.size w W) => AAnode.gLive T.d.A [] (some ⟨T.P.1, 0, none⟩) W ((h.out.below hW).am.bw.ag h.out.am.hd h.out.am.ta h.out.am.tc)
  obtain ⟨F, hF⟩ : ∃ F, F = T.F.length := ⟨_, rfl⟩
  obtain ⟨cl, hcl⟩ : ∃ cl, cl = C.length := ⟨_, rfl⟩
  rw [show T.n = cl by rw [hcl]; exact hsz] at c4
  have hlen : Hid (T.d.A.L.length = F) := Lib.hid (by rw [hF]; exact h.out.am.len)
  replace hF := Lib.hid hF
  replace hcl := Lib.hid hcl
  replace hsz := Lib.hid hsz
  replace hD := Lib.hid hD
  replace hFn := Lib.hid hFn
  replace hBf := Lib.hid hBf
  replace hB1 := Lib.hid hB1
  replace hbx1 := Lib.hid hbx1
  replace hbx2 := Lib.hid hbx2
  replace hA1 := Lib.hid hA1
  replace hsubr := Lib.hid hsubr
  replace hnsr := Lib.hid hnsr
  replace hn1 := Lib.hid hn1
  replace hh1 := Lib.hid hh1
  replace hB2 := Lib.hid hB2
  clear hFq hrp hrs hNw hHw hbx
-- <<r6
  refine wp_region_held_drew (S := fun W' => W'.cell? ⟨w.heap.size, 0, none⟩ = some (.pointer (some ⟨T.t, 0, none⟩)) ∧ W'.cell? ⟨FB, 0, none⟩ = some (.func (.func 50) #[] #[.pointer (some ⟨w.heap.size, 0, none⟩), .pointer (some ⟨NB, 0, none⟩), .pointer (some ⟨HB, 0, none⟩), .pointer (some ⟨FB, 0, none⟩)]) ∧ W'.cell? ⟨T.t, 2, none⟩ = some (.int .i64 T.r.1) ∧ W'.cell? ⟨T.t, 3, none⟩ = some (.int .u64 T.r.2) ∧ W'.cell? ⟨T.t, 1, none⟩ = some (.pointer (some ⟨T.d.A.a, 0, none⟩)) ∧ W'.cell? ⟨T.t, 4, none⟩ = some (.int .i64 cl)) rfl ⟨t0, f0, c2, c3, c1, c4⟩ (fun hHeld => ?_)
  refine takeL 0 (by simp only [List.getElem?_toArray, List.getElem?_cons_zero]; rfl) hHeld ?_
  refine ⟨by kernel_rfl, by kernel_rfl, by kernel_rfl, ?_, fun _ _ _ h => h, Or.inl ⟨by rfl, ?_⟩, ?_⟩
  rotate_left 1
  · intro w hSw; (try dsimp only at hSw); obtain ⟨i1, i2, i3, i4, i5, i6⟩ := hSw; go_simp; first | done | with_reducible rfl
  try simp only [Act.put, List.setIfInBounds_toArray, List.set_cons_zero, List.set_cons_succ]
  refine takeL 1 (by simp only [List.getElem?_toArray, List.getElem?_cons_succ, List.getElem?_cons_zero]; rfl) hHeld ?_
  refine ⟨by kernel_rfl, by kernel_rfl, by kernel_rfl, ?_, fun _ _ _ h => h, Or.inl ⟨by rfl, ?_⟩, ?_⟩
  rotate_left 1
  · intro w hSw; (try dsimp only at hSw); obtain ⟨i1, i2, i3, i4, i5, i6⟩ := hSw; go_simp; first | done | with_reducible rfl
  try simp only [Act.put, List.setIfInBounds_toArray, List.set_cons_zero, List.set_cons_succ]
  refine takeL 2 (by simp only [List.getElem?_toArray, List.getElem?_cons_succ, List.getElem?_cons_zero]; rfl) hHeld ?_
  refine ⟨by kernel_rfl, by kernel_rfl, by kernel_rfl, ?_, fun _ _ _ h => h, Or.inl ⟨by rfl, ?_⟩, ?_⟩
  rotate_left 1
  · intro w hSw; (try dsimp only at hSw); obtain ⟨i1, i2, i3, i4, i5, i6⟩ := hSw; go_simp; first | done | with_reducible rfl
  try simp only [Act.put, List.setIfInBounds_toArray, List.set_cons_zero, List.set_cons_succ]
  refine takeL 3 (by simp only [List.getElem?_toArray, List.getElem?_cons_succ, List.getElem?_cons_zero]; rfl) hHeld ?_
  refine ⟨by kernel_rfl, by kernel_rfl, by kernel_rfl, ?_, fun _ _ _ h => h, Or.inl ⟨by rfl, ?_⟩, ?_⟩
  rotate_left 1
  · intro w hSw; (try dsimp only at hSw); obtain ⟨i1, i2, i3, i4, i5, i6⟩ := hSw; go_simp; first | done | with_reducible rfl
  try simp only [Act.put, List.setIfInBounds_toArray, List.set_cons_zero, List.set_cons_succ]
  refine takeL 4 (by simp only [List.getElem?_toArray, List.getElem?_cons_succ, List.getElem?_cons_zero]; rfl) hHeld ?_
  refine ⟨by kernel_rfl, by kernel_rfl, by kernel_rfl, ?_, fun _ _ _ h => h, Or.inl ⟨by rfl, ?_⟩, ?_⟩
  rotate_left 1
  · intro w hSw; (try dsimp only at hSw); obtain ⟨i1, i2, i3, i4, i5, i6⟩ := hSw; go_simp; first | done | with_reducible rfl
  try simp only [Act.put, List.setIfInBounds_toArray, List.set_cons_zero, List.set_cons_succ]
  refine readyL 5 (by kernel_rfl) (by simp only [List.getElem?_toArray, List.getElem?_cons_succ, List.getElem?_cons_zero]; rfl) ?_
  intro K hK
  go_simp
  go_at_call 50
  refine (hC.out _ bel_dw).mono ?_
  rintro y w2 ⟨rfl, hD2, hU2⟩
  have hA2 := h.out.below hD2.bel
  obtain ⟨_, j1, j2, j3, j4, _, jq⟩ := hA2.am.cells
  rw [show T.n = cl by rw [hcl.out]; exact hsz.out] at j4
  have s0 : w2.cell? ⟨w.heap.size, 0, none⟩ = some (.pointer (some ⟨T.t, 0, none⟩)) := by rw [cell_of_heap hD2.tb]; rfl
  have s1 : w2.cell? ⟨FB, 0, none⟩ = some (.func (.func 50) #[] #[.pointer (some ⟨w.heap.size, 0, none⟩), .pointer (some ⟨NB, 0, none⟩), .pointer (some ⟨HB, 0, none⟩), .pointer (some ⟨FB, 0, none⟩)]) := by rw [cell_of_heap hD2.fb]; rfl
  have n0 : w2.cell? ⟨NB, 0, none⟩ = some (.int .i64 F) := by rw [cell_of_heap hD2.nb, hF.out]; show _ = some (Value.int .i64 (T.F.length : Nat)); rw [show T.F.length = 0 + (nsub T.F rn.path).length by rw [hnsr.out]; omega]; rfl
  have nq := heap_lt hD2.nb
  have h0 : w2.cell? ⟨HB, 0, none⟩ = some (.int .i64 cl) := by rw [cell_of_heap hD2.hb, hcl.out]; show _ = some (Value.int .i64 (C.length : Nat)); rw [show C.length = 0 + (sub C rn.path).length by rw [hsubr.out]; omega]; rfl
  have hqq := heap_lt hD2.hb
  have hS1 := And.intro s0 (And.intro s1 (And.intro j2 (And.intro j3 (And.intro j1 j4))))
  have hb2 := hD2.bel
  replace hD2 := Lib.hid hD2
  replace hU2 := Lib.hid hU2
  replace hA2 := Lib.hid hA2
  replace hb2 := Lib.hid hb2
  clear s0 s1 j1 j2 j3 j4 jq t0 tq f0 fq c1 c2 c3 c4 hq
  go_wp2_with fail
  refine hK.out _ _ hS1 (fun _ => ?_)
  clear hK K
  clear hHeld
  have hHeld := hS1
  clear hS1
  try simp only [Act.put, List.setIfInBounds_toArray, List.set_cons_zero, List.set_cons_succ]
  refine takeL 6 (by simp only [List.getElem?_toArray, List.getElem?_cons_succ, List.getElem?_cons_zero]; rfl) hHeld ?_
  refine ⟨by kernel_rfl, by kernel_rfl, by kernel_rfl, ?_, fun _ _ _ h => h, Or.inl ⟨by rfl, ?_⟩, ?_⟩
  rotate_left 1
  · intro w hSw; (try dsimp only at hSw); go_simp; first | done | with_reducible rfl
  try simp only [Act.put, List.setIfInBounds_toArray, List.set_cons_zero, List.set_cons_succ]
  refine takeL 8 (by simp only [List.getElem?_toArray, List.getElem?_cons_succ, List.getElem?_cons_zero]; rfl) hHeld ?_
  refine ⟨by kernel_rfl, by kernel_rfl, by kernel_rfl, ?_, fun _ _ _ h => h, Or.inl ⟨by rfl, ?_⟩, ?_⟩
  rotate_left 1
  · intro w hSw; (try dsimp only at hSw); obtain ⟨i1, i2, i3, i4, i5, i6⟩ := hSw; go_simp; first | done | with_reducible rfl
  try simp only [Act.put, List.setIfInBounds_toArray, List.set_cons_zero, List.set_cons_succ]
  refine takeL 9 (by simp only [List.getElem?_toArray, List.getElem?_cons_succ, List.getElem?_cons_zero]; rfl) hHeld ?_
  refine ⟨by kernel_rfl, by kernel_rfl, by kernel_rfl, ?_, fun _ _ _ h => h, Or.inl ⟨by rfl, ?_⟩, ?_⟩
  rotate_left 1
  · intro w hSw; (try dsimp only at hSw); obtain ⟨i1, i2, i3, i4, i5, i6⟩ := hSw; go_simp; first | done | with_reducible rfl
  try simp only [Act.put, List.setIfInBounds_toArray, List.set_cons_zero, List.set_cons_succ]
  refine takeL 10 (by simp only [List.getElem?_toArray, List.getElem?_cons_succ, List.getElem?_cons_zero]; rfl) hHeld ?_
  refine ⟨by kernel_rfl, by kernel_rfl, by kernel_rfl, ?_, fun _ _ _ h => h, Or.inl ⟨by rfl, ?_⟩, ?_⟩
  rotate_left 1
  · intro w hSw; (try dsimp only at hSw); obtain ⟨i1, i2, i3, i4, i5, i6⟩ := hSw; go_simp; first | done | with_reducible rfl
  try simp only [Act.put, List.setIfInBounds_toArray, List.set_cons_zero, List.set_cons_succ]
  refine takeL 11 (by simp only [List.getElem?_toArray, List.getElem?_cons_succ, List.getElem?_cons_zero]; rfl) hHeld ?_
  refine ⟨by kernel_rfl, by kernel_rfl, by kernel_rfl, ?_, fun _ _ _ h => h, Or.inl ⟨by rfl, ?_⟩, ?_⟩
  rotate_left 1
  · intro w hSw; (try dsimp only at hSw); obtain ⟨i1, i2, i3, i4, i5, i6⟩ := hSw; go_simp; first | done | with_reducible rfl
  try simp only [Act.put, List.setIfInBounds_toArray, List.set_cons_zero, List.set_cons_succ]
  refine wpAnyH_ready (rs := [7, 12]) (by kernel_rfl) (by simp) ?_
  refine (AllReadyH.cons rfl (fun K hK => ?_) (AllReadyH.cons rfl (fun K hK => ?_) AllReadyH.nil))
  · skip
    go_simp
    refine hK.out _ _ hHeld (fun _ => ?_)
    clear hK K
    try simp only [Act.put, List.setIfInBounds_toArray, List.set_cons_zero, List.set_cons_succ]
    refine readyL 12 (by kernel_rfl) (by simp only [List.getElem?_toArray, List.getElem?_cons_succ, List.getElem?_cons_zero]; rfl) ?_
    intro K hK
    go_simp
    go_at_call 49
    refine (hLv.out _ hb2.out).mono ?_
    rintro y w3 ⟨rfl, hb3⟩
    obtain ⟨i1, i2, i3, i4, i5, i6⟩ := hHeld
    have hS1 := And.intro (keep hb3 i1) (And.intro (keep hb3 i2) (And.intro (keep hb3 i3) (And.intro (keep hb3 i4) (And.intro (keep hb3 i5) (keep hb3 i6)))))
    have n1 := keep hb3 n0
    have nq1 := Nat.lt_of_lt_of_le nq hb3.size
    have h1 := keep hb3 h0
    have hq1 := Nat.lt_of_lt_of_le hqq hb3.size
    have hb4 := Lib.hid (hb2.out.trans (hb3.mono hb2.out.size))
    rw [hlen.out]
    replace hb3 := Lib.hid hb3
    clear i1 i2 i3 i4 i5 i6
    go_wp2_with fail
    refine hK.out _ _ hS1 (fun _ => ?_)
    clear hK K
    have hHeld := hS1
    clear hS1
    try simp only [Act.put, List.setIfInBounds_toArray, List.set_cons_zero, List.set_cons_succ]
    refine takeL 13 (by simp only [List.getElem?_toArray, List.getElem?_cons_succ, List.getElem?_cons_zero]; rfl) hHeld ?_
    refine ⟨by kernel_rfl, by kernel_rfl, by kernel_rfl, ?_, fun _ _ _ h => h, Or.inl ⟨by rfl, ?_⟩, ?_⟩
    rotate_left 1
    · intro w hSw; (try dsimp only at hSw); go_simp; first | done | with_reducible rfl
    try simp only [Act.put, List.setIfInBounds_toArray, List.set_cons_zero, List.set_cons_succ]
    refine takeL 14 (by simp only [List.getElem?_toArray, List.getElem?_cons_succ, List.getElem?_cons_zero]; rfl) hHeld ?_
    refine ⟨by kernel_rfl, by kernel_rfl, by kernel_rfl, ?_, fun _ _ _ h => h, Or.inl ⟨by rfl, ?_⟩, ?_⟩
    rotate_left 1
    · intro w hSw; (try dsimp only at hSw); go_simp; first | done | with_reducible rfl
    try simp only [Act.put, List.setIfInBounds_toArray, List.set_cons_zero, List.set_cons_succ]
    refine takeL 15 (by simp only [List.getElem?_toArray, List.getElem?_cons_succ, List.getElem?_cons_zero]; rfl) hHeld ?_
    refine ⟨by kernel_rfl, by kernel_rfl, by kernel_rfl, ?_, fun _ _ _ h => h, Or.inl ⟨by rfl, ?_⟩, ?_⟩
    rotate_left 1
    · intro w hSw; (try dsimp only at hSw); go_simp; first | done | with_reducible rfl
    try simp only [Act.put, List.setIfInBounds_toArray, List.set_cons_zero, List.set_cons_succ]
    refine takeL 17 (by simp only [List.getElem?_toArray, List.getElem?_cons_succ, List.getElem?_cons_zero]; rfl) hHeld ?_
    refine ⟨by kernel_rfl, by kernel_rfl, by kernel_rfl, ?_, fun _ _ _ h => h, Or.inl ⟨by rfl, ?_⟩, ?_⟩
    rotate_left 1
    · intro w hSw; (try dsimp only at hSw); obtain ⟨i1, i2, i3, i4, i5, i6⟩ := hSw; go_simp; first | done | with_reducible rfl
    try simp only [Act.put, List.setIfInBounds_toArray, List.set_cons_zero, List.set_cons_succ]
    refine takeL 18 (by simp only [List.getElem?_toArray, List.getElem?_cons_succ, List.getElem?_cons_zero]; rfl) hHeld ?_
    refine ⟨by kernel_rfl, by kernel_rfl, by kernel_rfl, ?_, fun _ _ _ h => h, Or.inl ⟨by rfl, ?_⟩, ?_⟩
    rotate_left 1
    · intro w hSw; (try dsimp only at hSw); obtain ⟨i1, i2, i3, i4, i5, i6⟩ := hSw; go_simp; first | done | with_reducible rfl
    try simp only [Act.put, List.setIfInBounds_toArray, List.set_cons_zero, List.set_cons_succ]
    refine takeL 19 (by simp only [List.getElem?_toArray, List.getElem?_cons_succ, List.getElem?_cons_zero]; rfl) hHeld ?_
    refine ⟨by kernel_rfl, by kernel_rfl, by kernel_rfl, ?_, fun _ _ _ h => h, Or.inl ⟨by rfl, ?_⟩, ?_⟩
    rotate_left 1
    · intro w hSw; (try dsimp only at hSw); obtain ⟨i1, i2, i3, i4, i5, i6⟩ := hSw; go_simp; first | done | with_reducible rfl
    try simp only [Act.put, List.setIfInBounds_toArray, List.set_cons_zero, List.set_cons_succ]
    refine takeL 20 (by simp only [List.getElem?_toArray, List.getElem?_cons_succ, List.getElem?_cons_zero]; rfl) hHeld ?_
    refine ⟨by kernel_rfl, by kernel_rfl, by kernel_rfl, ?_, fun _ _ _ h => h, Or.inl ⟨by rfl, ?_⟩, ?_⟩
    rotate_left 1
    · intro w hSw; (try dsimp only at hSw); obtain ⟨i1, i2, i3, i4, i5, i6⟩ := hSw; go_simp; first | done | with_reducible rfl
    try simp only [Act.put, List.setIfInBounds_toArray, List.set_cons_zero, List.set_cons_succ]
    refine readyL 16 (by kernel_rfl) (by simp only [List.getElem?_toArray, List.getElem?_cons_succ, List.getElem?_cons_zero]; rfl) ?_
    intro K hK
    go_simp
    refine hK.out _ _ hHeld (fun _ => ?_)
    clear hK K
    try simp only [Act.put, List.setIfInBounds_toArray, List.set_cons_zero, List.set_cons_succ]
    refine takeL 21 (by simp only [List.getElem?_toArray, List.getElem?_cons_succ, List.getElem?_cons_zero]; rfl) hHeld ?_
    refine ⟨by kernel_rfl, by kernel_rfl, by kernel_rfl, ?_, fun _ _ _ h => h, Or.inl ⟨by rfl, ?_⟩, ?_⟩
    rotate_left 1
    · intro w hSw; (try dsimp only at hSw); go_simp; first | done | with_reducible rfl
    try simp only [Act.put, List.setIfInBounds_toArray, List.set_cons_zero, List.set_cons_succ]
    refine takeL 22 (by simp only [List.getElem?_toArray, List.getElem?_cons_succ, List.getElem?_cons_zero]; rfl) hHeld ?_
    refine ⟨by kernel_rfl, by kernel_rfl, by kernel_rfl, ?_, fun _ _ _ h => h, Or.inl ⟨by rfl, ?_⟩, ?_⟩
    rotate_left 1
    · intro w hSw; (try dsimp only at hSw); go_simp; first | done | with_reducible rfl
    try simp only [Act.put, List.setIfInBounds_toArray, List.set_cons_zero, List.set_cons_succ]
    refine readyL 23 (by kernel_rfl) (by simp only [List.getElem?_toArray, List.getElem?_cons_succ, List.getElem?_cons_zero]; rfl) ?_
    intro K hK
    go_simp
    refine hK.out _ _ hHeld (fun _ => ?_)
    clear hK K
    try simp only [Act.put, List.setIfInBounds_toArray, List.set_cons_zero, List.set_cons_succ]
    refine wpAnyH_done (by kernel_rfl) ?_ _
    simp only [Exit.then]
    go_wp2_with fail
    refine bodyPost_ret (v := .bool true) (by simp [results, Tryz.results22, go_sem]) rfl ⟨rfl, hb4.out⟩
  · skip
    go_simp
    go_at_call 49
    refine (hLv.out _ hb2.out).mono ?_
    rintro y w3 ⟨rfl, hb3⟩
    obtain ⟨i1, i2, i3, i4, i5, i6⟩ := hHeld
    have hS1 := And.intro (keep hb3 i1) (And.intro (keep hb3 i2) (And.intro (keep hb3 i3) (And.intro (keep hb3 i4) (And.intro (keep hb3 i5) (keep hb3 i6)))))
    have n1 := keep hb3 n0
    have nq1 := Nat.lt_of_lt_of_le nq hb3.size
    have h1 := keep hb3 h0
    have hq1 := Nat.lt_of_lt_of_le hqq hb3.size
    have hb4 := Lib.hid (hb2.out.trans (hb3.mono hb2.out.size))
    rw [hlen.out]
    replace hb3 := Lib.hid hb3
    clear i1 i2 i3 i4 i5 i6
    go_wp2_with fail
    refine hK.out _ _ hS1 (fun _ => ?_)
    clear hK K
    have hHeld := hS1
    clear hS1
    try simp only [Act.put, List.setIfInBounds_toArray, List.set_cons_zero, List.set_cons_succ]
    refine readyL 7 (by kernel_rfl) (by simp only [List.getElem?_toArray, List.getElem?_cons_succ, List.getElem?_cons_zero]; rfl) ?_
    intro K hK
    go_simp
    refine hK.out _ _ hHeld (fun _ => ?_)
    clear hK K
    try simp only [Act.put, List.setIfInBounds_toArray, List.set_cons_zero, List.set_cons_succ]
    refine takeL 13 (by simp only [List.getElem?_toArray, List.getElem?_cons_succ, List.getElem?_cons_zero]; rfl) hHeld ?_
    refine ⟨by kernel_rfl, by kernel_rfl, by kernel_rfl, ?_, fun _ _ _ h => h, Or.inl ⟨by rfl, ?_⟩, ?_⟩
    rotate_left 1
    · intro w hSw; (try dsimp only at hSw); go_simp; first | done | with_reducible rfl
    try simp only [Act.put, List.setIfInBounds_toArray, List.set_cons_zero, List.set_cons_succ]
    refine takeL 14 (by simp only [List.getElem?_toArray, List.getElem?_cons_succ, List.getElem?_cons_zero]; rfl) hHeld ?_
    refine ⟨by kernel_rfl, by kernel_rfl, by kernel_rfl, ?_, fun _ _ _ h => h, Or.inl ⟨by rfl, ?_⟩, ?_⟩
    rotate_left 1
    · intro w hSw; (try dsimp only at hSw); go_simp; first | done | with_reducible rfl
    try simp only [Act.put, List.setIfInBounds_toArray, List.set_cons_zero, List.set_cons_succ]
    refine takeL 15 (by simp only [List.getElem?_toArray, List.getElem?_cons_succ, List.getElem?_cons_zero]; rfl) hHeld ?_
    refine ⟨by kernel_rfl, by kernel_rfl, by kernel_rfl, ?_, fun _ _ _ h => h, Or.inl ⟨by rfl, ?_⟩, ?_⟩
    rotate_left 1
    · intro w hSw; (try dsimp only at hSw); go_simp; first | done | with_reducible rfl
    try simp only [Act.put, List.setIfInBounds_toArray, List.set_cons_zero, List.set_cons_succ]
    refine takeL 17 (by simp only [List.getElem?_toArray, List.getElem?_cons_succ, List.getElem?_cons_zero]; rfl) hHeld ?_
    refine ⟨by kernel_rfl, by kernel_rfl, by kernel_rfl, ?_, fun _ _ _ h => h, Or.inl ⟨by rfl, ?_⟩, ?_⟩
    rotate_left 1
    · intro w hSw; (try dsimp only at hSw); obtain ⟨i1, i2, i3, i4, i5, i6⟩ := hSw; go_simp; first | done | with_reducible rfl
    try simp only [Act.put, List.setIfInBounds_toArray, List.set_cons_zero, List.set_cons_succ]
    refine takeL 18 (by simp only [List.getElem?_toArray, List.getElem?_cons_succ, List.getElem?_cons_zero]; rfl) hHeld ?_
    refine ⟨by kernel_rfl, by kernel_rfl, by kernel_rfl, ?_, fun _ _ _ h => h, Or.inl ⟨by rfl, ?_⟩, ?_⟩
    rotate_left 1
    · intro w hSw; (try dsimp only at hSw); obtain ⟨i1, i2, i3, i4, i5, i6⟩ := hSw; go_simp; first | done | with_reducible rfl
    try simp only [Act.put, List.setIfInBounds_toArray, List.set_cons_zero, List.set_cons_succ]
    refine takeL 19 (by simp only [List.getElem?_toArray, List.getElem?_cons_succ, List.getElem?_cons_zero]; rfl) hHeld ?_
    refine ⟨by kernel_rfl, by kernel_rfl, by kernel_rfl, ?_, fun _ _ _ h => h, Or.inl ⟨by rfl, ?_⟩, ?_⟩
    rotate_left 1
    · intro w hSw; (try dsimp only at hSw); obtain ⟨i1, i2, i3, i4, i5, i6⟩ := hSw; go_simp; first | done | with_reducible rfl
    try simp only [Act.put, List.setIfInBounds_toArray, List.set_cons_zero, List.set_cons_succ]
    refine takeL 20 (by simp only [List.getElem?_toArray, List.getElem?_cons_succ, List.getElem?_cons_zero]; rfl) hHeld ?_
    refine ⟨by kernel_rfl, by kernel_rfl, by kernel_rfl, ?_, fun _ _ _ h => h, Or.inl ⟨by rfl, ?_⟩, ?_⟩
    rotate_left 1
    · intro w hSw; (try dsimp only at hSw); obtain ⟨i1, i2, i3, i4, i5, i6⟩ := hSw; go_simp; first | done | with_reducible rfl
    try simp only [Act.put, List.setIfInBounds_toArray, List.set_cons_zero, List.set_cons_succ]
    refine readyL 16 (by kernel_rfl) (by simp only [List.getElem?_toArray, List.getElem?_cons_succ, List.getElem?_cons_zero]; rfl) ?_
    intro K hK
    go_simp
    refine hK.out _ _ hHeld (fun _ => ?_)
    clear hK K
    try simp only [Act.put, List.setIfInBounds_toArray, List.set_cons_zero, List.set_cons_succ]
    refine takeL 21 (by simp only [List.getElem?_toArray, List.getElem?_cons_succ, List.getElem?_cons_zero]; rfl) hHeld ?_
    refine ⟨by kernel_rfl, by kernel_rfl, by kernel_rfl, ?_, fun _ _ _ h => h, Or.inl ⟨by rfl, ?_⟩, ?_⟩
    rotate_left 1
    · intro w hSw; (try dsimp only at hSw); go_simp; first | done | with_reducible rfl
    try simp only [Act.put, List.setIfInBounds_toArray, List.set_cons_zero, List.set_cons_succ]
    refine takeL 22 (by simp only [List.getElem?_toArray, List.getElem?_cons_succ, List.getElem?_cons_zero]; rfl) hHeld ?_
    refine ⟨by kernel_rfl, by kernel_rfl, by kernel_rfl, ?_, fun _ _ _ h => h, Or.inl ⟨by rfl, ?_⟩, ?_⟩
    rotate_left 1
    · intro w hSw; (try dsimp only at hSw); go_simp; first | done | with_reducible rfl
    try simp only [Act.put, List.setIfInBounds_toArray, List.set_cons_zero, List.set_cons_succ]
    refine readyL 23 (by kernel_rfl) (by simp only [List.getElem?_toArray, List.getElem?_cons_succ, List.getElem?_cons_zero]; rfl) ?_
    intro K hK
    go_simp
    refine hK.out _ _ hHeld (fun _ => ?_)
    clear hK K
    try simp only [Act.put, List.setIfInBounds_toArray, List.set_cons_zero, List.set_cons_succ]
    refine wpAnyH_done (by kernel_rfl) ?_ _
    simp only [Exit.then]
    go_wp2_with fail
    refine bodyPost_ret (v := .bool true) (by simp [results, Tryz.results22, go_sem]) rfl ⟨rfl, hb4.out⟩
-- >>r6
end
end Go.Proofs.YtmhlokomlngdmaaGreat
