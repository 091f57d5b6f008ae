/- A trie's All: the keys below a node, in order. A trie's All. -/
import Derived.Test.YtmhlokomlngdmaaGreatArtWy
import Derived.Test.YtmhlokomlngdmaaGreatArtIm
import Derived.Laws.EntriesVeiled
namespace Go.Proofs.YtmhlokomlngdmaaGreat
open Go.RowKit Go.Shelf
attribute [local go_sem] Oper.semAt_some
def pcel (x : Str × Str) : List Value := [.string x.1, .string x.2]
theorem pcel_len (x : Str × Str) : (pcel x).length = 2 := rfl
theorem pcel_one (x : Str × Str) : ∀ y ∈ pcel x, y.oneCell' = true := by intro y hy; simp [pcel] at hy; rcases hy with rfl | rfl <;> rfl
theorem pr_info : ∃ i0 : TypeInfo, Tryz.prog.info? 57 = some i0 ∧ i0.zero = some (.agg #[.string ⟨#[]⟩, .string ⟨#[]⟩]) ∧ i0.size = 2 ∧ i0.bytes = 32 := by
  have h : (Tryz.prog.info? 57).map (fun i => (i.zero, i.size, i.bytes)) = some (some (.agg #[.string ⟨#[]⟩, .string ⟨#[]⟩]), 2, 32) := by kernel_rfl
  cases hi : Tryz.prog.info? 57 with
  | none => rw [hi] at h; cases h
  | some i => rw [hi] at h; injection h with h; exact ⟨i, rfl, congrArg (·.1) h, congrArg (·.2.1) h, congrArg (·.2.2) h⟩
/-- Nothing but the normal way out. -/
theorem wp_calm {P : Program} {c : Code} {K : Act → World → Prop} {Q : Exit → Act → World → Prop} {a : Act} {w : World} (h : c.wp P (Exit.then K (fun _ _ _ => False)) a w) : c.wp P (Exit.then K Q) a w :=
  Go.wp_mono h fun e a w hh => by
    cases e with
    | normal => exact hh
    | _ => exact hh.elim
/-- Between two steps of All: its boxes, and what it has. -/
structure DnI (w1 : World) (t tB OB FB : Nat) (W : World) (v : Value) (L : Cont) : Prop where
  bel : Below w1.heap.size w1 W
  tb : W.heap[tB]? = some (.cells #[.pointer (some ⟨t, 0, none⟩)] 30)
  ob : W.heap[OB]? = some (.cells #[v] 35)
  fb : W.heap[FB]? = some (.cells #[.func (.func 40) #[] #[.pointer (some ⟨tB, 0, none⟩), .pointer (some ⟨OB, 0, none⟩), .pointer (some ⟨FB, 0, none⟩)]] 92)
  row : Row w1.heap.size 57 2 pcel W v L
  q : w1.heap.size ≤ tB ∧ w1.heap.size ≤ OB ∧ w1.heap.size ≤ FB
def DnOwn (n : Nat) (v v' : Value) : Prop := ∀ q, v'.ownBlock = some q → v.ownBlock = some q ∨ n ≤ q
def DnEnd (w1 : World) (t tB OB FB : Nat) (W : World) (v : Value) (L L' : Cont) (e : Ending) (W' : World) : Prop :=
  e = .returned (.tuple #[]) ∧ ∃ v', DnI w1 t tB OB FB W' v' (L ++ L') ∧ Upd (OB :: v.ownBlock.toList) W W' ∧ DnOwn W.heap.size v v'
section
variable {w1 W W' W2 : World} {t tB OB FB : Nat} {v v' : Value} {L L' : Cont}
theorem DnI.rowNe (h : DnI w1 t tB OB FB W v L) {q : Nat} {c : Array Value} {ty : TypeId} (hq : W.heap[q]? = some (.cells c ty)) (ht : ty ≠ 57) : q ∉ v.ownBlock.toList := fun hm => by
  obtain ⟨c', hc'⟩ := h.row.tagB (mem_own hm)
  exact tag_ne hq hc' ht rfl
theorem DnI.upd {S : List Nat} (h : DnI w1 t tB OB FB W v L) (hu : Upd S W W') (hb : ∀ q, q ∈ S → w1.heap.size ≤ q) (h1 : tB ∉ S) (h2 : OB ∉ S) (h3 : FB ∉ S) (h4 : ∀ q, v.ownBlock = some q → q ∉ S) : DnI w1 t tB OB FB W' v L :=
  ⟨h.bel.trans (hu.below h.bel.size hb), hu.heap h.tb h1, hu.heap h.ob h2, hu.heap h.fb h3, h.row.upd hu h4, h.q⟩
theorem DnI.below (h : DnI w1 t tB OB FB W v L) (hb : Below W.heap.size W W') : DnI w1 t tB OB FB W' v L :=
  ⟨h.bel.trans (hb.mono h.bel.size), Below.heap' hb h.tb, Below.heap' hb h.ob, Below.heap' hb h.fb, h.row.below hb, h.q⟩
/-- More is put to the list. -/
theorem DnI.put (h : DnI w1 t tB OB FB W v L) (hb : Below W.heap.size W W2) {w6 : World} (hu : Upd v.ownBlock.toList W2 w6) (hr : Row w1.heap.size 57 2 pcel w6 v' L') (ho : v'.ownBlock = v.ownBlock ∨ v'.ownBlock = some W2.heap.size) :
    DnI w1 t tB OB FB (w6.setCell ⟨OB, 0, none⟩ v') v' L' ∧ Upd (OB :: v.ownBlock.toList) W (w6.setCell ⟨OB, 0, none⟩ v') ∧ DnOwn W.heap.size v v' := by
  have hk := h.below hb
  have hin : ∀ q, q ∈ v.ownBlock.toList → v.ownBlock = some q := fun q hq => by simpa using hq
  have u2 : Upd (OB :: v.ownBlock.toList) w6 (w6.setCell ⟨OB, 0, none⟩ v') := (Upd.refl _ w6).setCell (p := ⟨OB, 0, none⟩) (by simp) v'
  have u3 : Upd [OB] w6 (w6.setCell ⟨OB, 0, none⟩ v') := (Upd.refl _ w6).setCell (p := ⟨OB, 0, none⟩) (by simp) v'
  have u1 : Upd (OB :: v.ownBlock.toList) W2 w6 := hu.mono (fun k hk => List.mem_cons_of_mem _ hk)
  have hob6 := hu.heap hk.ob (hk.rowNe hk.ob (by decide))
  have e1 : tB ≠ OB := tag_ne hk.tb hk.ob (by decide)
  have e2 : FB ≠ OB := tag_ne hk.fb hk.ob (by decide)
  refine ⟨⟨(hk.bel.trans (hu.below hk.bel.size (fun q hq => (hk.row.lt q (hin q hq)).1))).trans (u3.below ((hk.bel.trans (hu.below hk.bel.size (fun q hq => (hk.row.lt q (hin q hq)).1))).size) (fun q hq => by rw [List.mem_singleton.1 hq]; exact h.q.2.1)), ?_, ?_, ?_, ?_, h.q⟩, ((Upd.of_below hb).trans u1).trans u2, ?_⟩
  · exact u3.heap (hu.heap hk.tb (hk.rowNe hk.tb (by decide))) (by simp [e1])
  · exact heap_set_same hob6 0 _
  · exact u3.heap (hu.heap hk.fb (hk.rowNe hk.fb (by decide))) (by simp [e2])
  · refine hr.upd u3 fun q hq hm => ?_
    rw [List.mem_singleton.1 hm] at hq
    obtain ⟨c', hc'⟩ := hr.tagB hq
    exact tag_ne hob6 hc' (by decide) rfl
  · intro q hq
    rcases ho with e | e
    · exact .inl (by rw [← e]; exact hq)
    · rw [e] at hq
      injection hq with hq
      exact .inr (by rw [← hq]; exact hb.size)
theorem DnOwn.refl (n : Nat) (v : Value) : DnOwn n v v := fun _ h => .inl h
end
/-- Between two rounds over a node's children. -/
def DnJ (w1 : World) (t tB OB FB PB : Nat) (w4 w5 : World) (v1 : Value) (pth : Str) (C : Cont) (p : Byt) (L1 : Cont) (pre : KL) (W : World) : Prop :=
  (∃ v', DnI w1 t tB OB FB W v' (L1 ++ kidsC C p pre) ∧ DnOwn w5.heap.size v1 v') ∧ W.heap[PB]? = some (.cells #[.string pth] 9) ∧ w5.heap.size ≤ W.heap.size ∧ Upd (OB :: v1.ownBlock.toList) w4 W
theorem DnJ.own {w1 : World} {t tB OB FB PB : Nat} {w4 w5 : World} {v1 : Value} {pth : Str} {C : Cont} {p : Byt} {L1 : Cont} {β : Type} {g : β → KL} (hw : w1.heap.size ≤ w5.heap.size) (h45 : w4.heap.size ≤ w5.heap.size) : OwnFrom w5.heap.size (fun pre => DnJ w1 t tB OB FB PB w4 w5 v1 pth C p L1 (g pre)) := fun pre W W' row h hg hr => by
  have hu := grown_upd hg
  have hr2 := fun r e => (hr r e).2
  obtain ⟨⟨v', hD, hO⟩, hp, hs, hU⟩ := h
  have hge : ∀ q, q ∈ row.toList → w5.heap.size ≤ q := fun q hq => (hr q (by simpa using hq)).1
  refine ⟨⟨v', hD.upd hu (fun q hq => Nat.le_trans hw (hge q hq)) (noCells hr2 hD.tb) (noCells hr2 hD.ob) (noCells hr2 hD.fb) (fun q hq => ?_), hO⟩, hu.heap hp (noCells hr2 hp), Nat.le_trans hs hg.size, hU.via hu (fun q hq => .inr (Nat.le_trans h45 (hge q hq)))⟩
  obtain ⟨c', hc'⟩ := hD.row.tagB hq
  exact noCells hr2 hc'
theorem kidsC_len (C : Cont) (p : Byt) : ∀ L : KL, (kidsC C p L).length ≤ L.length * C.length
  | [] => by simp [kidsC]
  | y :: L => by
    have h := kidsC_len C p L
    unfold kidsC at h ⊢
    rw [List.flatMap_cons, List.length_append, List.length_cons, Nat.add_mul]
    have h1 : (sub C (p ++ [y.1])).length ≤ C.length := List.length_filter_le _ _
    omega
theorem vals_len (n : AN) : (vals n).length ≤ 1 := by unfold vals; split <;> simp
section
variable {w0 w1 W : World} {T : TS} {C : Cont} {tB OB FB : Nat} {v : Value} {L : Cont}
set_option maxRecDepth 100000 in
set_option maxHeartbeats 16000000 in
theorem dn_step (h : AT w0 w1 T C) {x : Hd × AN} (hx : x ∈ T.F) (hD : DnI w1 T.t tB OB FB W v L) (path : Str) (hp : x.2.path = bl path ++ bl x.2.pre) (hL : L.length + (nsub T.F x.2.path).length * 1100000 ≤ 5000000000)
    (hRec : ∀ y m W v L pth, y ∈ x.2.kids → (y.2, m) ∈ T.F → m.path = bl pth ++ bl m.pre → L.length + (nsub T.F m.path).length * 1100000 ≤ 5000000000 → DnI w1 T.t tB OB FB W v L →
      Calls Tryz.prog 40 #[hV y.2, .string pth, .pointer (some ⟨tB, 0, none⟩), .pointer (some ⟨OB, 0, none⟩), .pointer (some ⟨FB, 0, none⟩)] W (DnEnd w1 T.t tB OB FB W v L (sub C m.path))) :
    Calls Tryz.prog 40 #[hV x.1, .string path, .pointer (some ⟨tB, 0, none⟩), .pointer (some ⟨OB, 0, none⟩), .pointer (some ⟨FB, 0, none⟩)] W (DnEnd w1 T.t tB OB FB W v L (sub C x.2.path)) := by
  obtain ⟨⟨g1, g2⟩, n⟩ := x
  have hA := h.below hD.bel
  obtain ⟨hbx, hby⟩ := heap_two W (.cells #[.int .i64 g1, .int .u64 g2] 77) (.cells #[.string path] 9)
  have hBe := below_two W (.cells #[.int .i64 g1, .int .u64 g2] 77) (.cells #[.string path] 9)
  replace h := Lib.hid h
  replace hRec := Lib.hid hRec
  replace hx := Lib.hid hx
  refine (callsIn_wide (n := 6)).1 ?_
  refine callsIn_of_wp_marks Tryz.func40 rfl trivial (wpIn_wide.2 ?_) rfl
  simp only [Tryz.ntmps40, List.size_toArray, List.length_cons, List.length_nil, Nat.reduceAdd, Nat.reduceSub, Array.replicate_succ, Array.replicate_zero, List.push_toArray, List.append_toArray, List.nil_append, List.cons_append]
  go_upto_region 1 with fail
  generalize (W.alloc (.cells #[.int .i64 g1, .int .u64 g2] 77)).alloc (.cells #[.string path] 9) = W0 at *
  obtain ⟨k0, k1, kq, _⟩ := cells2 hbx
  have hD0 := hD.below hBe
  have hA0 := hA.below hBe
  obtain ⟨e, e1, e2, e3, e4, hAt⟩ := hA0.am.at hx.out
  have hAt0 := hAt W0 (Below.refl _ _)
  have t0 : W0.cell? ⟨tB, 0, none⟩ = some (.pointer (some ⟨T.t, 0, none⟩)) := by rw [cell_of_heap hD0.tb]; rfl
  have tq := heap_lt hD0.tb
  obtain ⟨PB, hPB⟩ : ∃ PB, PB = W.heap.size + 1 := ⟨_, rfl⟩
  rw [← hPB] at hby ⊢
  obtain ⟨eb, heb⟩ : ∃ eb, eb = e.blk := ⟨_, rfl⟩
  rw [← heb] at e4 hAt0
  have heb1 : eb < w1.heap.size := by rw [heb]; exact heap_lt (h.out.am.bw.cellsOf h.out.am.hd h.out.am.tc e1)
  replace hD0 := Lib.hid hD0
  replace hD := Lib.hid hD
  replace hA := Lib.hid hA
  replace hA0 := Lib.hid hA0
  replace hbx := Lib.hid hbx
  replace hby := Lib.hid hby
  replace hBe := Lib.hid hBe
  replace hp := Lib.hid hp
  replace hL := Lib.hid hL
  replace hPB := Lib.hid hPB
  replace heb := Lib.hid heb
  replace e4 := Lib.hid e4
  clear hAt e1 e2 e3
  go_wp2_with fail
  refine hAt0.mono ?_
  clear hAt0
  rintro y w2 ⟨rfl, hb2⟩
  have hD2 := hD0.out.below hb2
  have hby2 := Below.heap' hb2 hby.out
  have e42 := Below.heap' hb2 e4.out
  obtain ⟨n1, n2, n3, n4, nq, nf⟩ := nx_cells e42
  have p0 : w2.cell? ⟨PB, 0, none⟩ = some (.string path) := by rw [cell_of_heap hby2]; rfl
  have pq := heap_lt hby2
  have pf := fun i => frozen_of_heap hby2 i
  have hpz : n.pre.size ≤ 600 := Nat.le_trans (h.out.ok.pre_le hx.out) (h.out.lim _ hx.out)
  have hpz2 : path.size ≤ 600 := by
    have h1 := h.out.lim _ hx.out
    rw [hp.out, List.length_append, bl_size] at h1
    omega
  have hno : ¬ 9223372036854775807 < path.size + n.pre.size := by omega
  obtain ⟨pth, hpth⟩ : ∃ pth, pth = path ++ n.pre := ⟨_, rfl⟩
  have hpn : Hid (bl pth = n.path) := Lib.hid (by rw [hpth, bl_app]; exact hp.out.symm)
  replace hpth := Lib.hid hpth
  replace hD2 := Lib.hid hD2
  replace hby2 := Lib.hid hby2
  replace e42 := Lib.hid e42
  replace hb2 := Lib.hid hb2
  clear t0 tq k0 k1 kq
  go_upto_region 2 with fail
  go_cut [] from 10 to 18 (fun wz => wz.heap[PB]? = some (.cells #[.string pth] 9) ∧ Upd [PB] w2 wz)
  case first =>
    go_region
    all_goals
      go_wp2_with fail
      go_meet
      rw [hpth.out]
      exact ⟨heap_set_same hby2.out 0 _, ((Upd.refl [PB] _).setCell (p := ⟨PB, 0, none⟩) (by simp) _).drew⟩
  case rest =>
    obtain ⟨hbp, hu3⟩ := hcut
    obtain ⟨w3, hw3⟩ : ∃ w3, w3 = wc := ⟨_, rfl⟩
    rw [← hw3] at hbp hu3 ⊢
    clear hw3 n1 n2 n3 n4 nq nf p0 pq pf hno
    have hPw : W.heap.size < PB := by rw [hPB.out]; exact Nat.lt_succ_self _
    have hPw1 : w1.heap.size ≤ PB := by
      have := hD.out.bel.size
      omega
    have hD3 : DnI w1 T.t tB OB FB w3 v L := hD2.out.upd hu3 (fun q hq => by rw [List.mem_singleton.1 hq]; exact hPw1)
      (fun hm => by have := heap_lt hD.out.tb; simp at hm; omega) (fun hm => by have := heap_lt hD.out.ob; simp at hm; omega) (fun hm => by have := heap_lt hD.out.fb; simp at hm; omega)
      (fun q hq hm => by have := (hD.out.row.lt q hq).2; simp at hm; omega)
    have hU3 : Upd (OB :: v.ownBlock.toList) W w3 := by
      have h1 : Upd (OB :: v.ownBlock.toList) W w2 := (Upd.of_below (S := OB :: v.ownBlock.toList) (hBe.out.trans (hb2.out.mono hBe.out.size)))
      exact h1.via hu3 (fun q hq => .inr (by rw [List.mem_singleton.1 hq]; omega))
    have e43 := hu3.heap e42.out (fun hm => by simp at hm; omega)
    obtain ⟨n1, n2, n3, n4, nq, nf⟩ := nx_cells e43
    have hA3 := h.out.below hD3.bel
    obtain ⟨Bk, hBk⟩ := hA3.am.kidsAt (nb := n.nb) (L := n.kids) (h.out.am.kid _ hx.out)
    have hsub : sub C n.path = vals n ++ kidsC C n.path n.kids := sub_node h.out.ok h.out.ct hx.out
    replace hsub := Lib.hid hsub
    replace hU3 := Lib.hid hU3
    replace hD3 := Lib.hid hD3
    replace hA3 := Lib.hid hA3
    replace hu3 := Lib.hid hu3
    replace hbp := Lib.hid hbp
    replace e43 := Lib.hid e43
    clear hBk
    go_upto_if 22 with fail
    go_cut [] from 10 to 31 (fun wz => ∃ v1, DnI w1 T.t tB OB FB wz v1 (L ++ vals n) ∧ Upd (OB :: v.ownBlock.toList) w3 wz ∧ DnOwn w3.heap.size v v1)
    case first =>
      cases hv : n.val with
      | none =>
        have hvl : Hid (vals n = []) := Lib.hid (by unfold vals; rw [hv])
        rw [hv] at n3
        simp only [Option.isSome_none] at n3
        replace hv := Lib.hid hv
        go_wp2_with fail
        go_meet
        exact ⟨v, by rw [hvl.out, List.append_nil]; exact hD3.out, Upd.refl _ _, DnOwn.refl _ _⟩
      | some u =>
        have hvl : Hid (vals n = [(pth, u)]) := Lib.hid (by
          unfold vals; rw [hv]
          simp only
          rw [← hpn.out, bs_bl])
        rw [hv] at n2 n3
        simp only [Option.isSome_some, Option.getD_some] at n2 n3
        obtain ⟨a0, k0, hvs⟩ := hD3.out.row.shape
        subst hvs
        have o0 : w3.cell? ⟨OB, 0, none⟩ = some (.slice a0 L.length k0) := by rw [cell_of_heap hD3.out.ob]; rfl
        have oq := heap_lt hD3.out.ob
        have of := fun i => frozen_of_heap hD3.out.ob i
        have p0 : w3.cell? ⟨PB, 0, none⟩ = some (.string pth) := by rw [cell_of_heap hbp.out]; rfl
        obtain ⟨i0, hi0, hzA, hzB, hzC⟩ := pr_info
        obtain ⟨wa, hwa⟩ : ∃ wa, wa = (w3.alloc (.cells #[.string pth, .string u] 57)).drew := ⟨_, rfl⟩
        have hAl : Below w3.heap.size w3 wa := by rw [hwa]; exact ((Below.refl w3.heap.size w3).alloc (Nat.le_refl _) _).drew
        have hrow := (hD3.out.below hAl).row
        have hsrc : SrcOf wa (.slice (some ⟨w3.heap.size, 0, none⟩) 1 1) 1 2 ([(pth, u)].flatMap pcel) := by rw [hwa]; exact (SrcOf.one w3 57 (pcel (pth, u)) (pcel_one _)).below (drew_bel _)
        have hll : L.length + 1 ≤ 6000000000 := by
          have h1 := hL.out
          omega
        have hlm : Hid (L.length + [(pth, u)].length ≤ maxLen) := Lib.hid (by unfold maxLen; simp only [List.length_singleton]; omega)
        have hly : Hid ((L.length + [(pth, u)].length) * 32 ≤ 140737488355328) := Lib.hid (by simp only [List.length_singleton]; omega)
        have hbb : Hid (w1.heap.size ≤ wa.heap.size) := Lib.hid (Nat.le_trans hD3.out.bel.size hAl.size)
        have hfin : Hid (∀ v' w6, Row w1.heap.size 57 2 pcel w6 v' (L ++ [(pth, u)]) → Upd (Value.slice a0 L.length k0).ownBlock.toList wa w6 → (v'.ownBlock = (Value.slice a0 L.length k0).ownBlock ∨ v'.ownBlock = some wa.heap.size) →
            (DnI w1 T.t tB OB FB (w6.setCell ⟨OB, 0, none⟩ v') v' (L ++ [(pth, u)]) ∧ Upd (OB :: (Value.slice a0 L.length k0).ownBlock.toList) w3 (w6.setCell ⟨OB, 0, none⟩ v') ∧ DnOwn w3.heap.size (.slice a0 L.length k0) v') ∧ w6.cell? ⟨OB, 0, none⟩ = some (.slice a0 L.length k0) ∧ OB < w6.heap.size ∧ ∀ i, w6.frozen? ⟨OB, i, none⟩ = false) := Lib.hid fun v' w6 hr hu ho => by
          have hk := (hD3.out.below hAl).ob
          have hk6 := hu.heap hk ((hD3.out.below hAl).rowNe hk (by decide))
          exact ⟨hD3.out.put hAl hu hr ho, by rw [cell_of_heap hk6]; rfl, heap_lt hk6, fun i => frozen_of_heap hk6 i⟩
        replace hAl := Lib.hid hAl
        replace hrow := Lib.hid hrow
        replace hsrc := Lib.hid hsrc
        replace hwa := Lib.hid hwa
        replace hv := Lib.hid hv
        replace hll := Lib.hid hll
        go_upto_region 4 with fail
        refine wp_calm ?_
        go_region_law (first | (rw [← hwa.out]; refine step_append_row (f := pcel) (M := [(pth, u)]) _ rfl _ _ 35 rfl w1.heap.size 57 i0 (.agg #[.string ⟨#[]⟩, .string ⟨#[]⟩]) 2 32 Tryz.underlying35 hi0 hzA hzB hzC rfl (Nat.zero_lt_succ 1) (.slice a0 L.length k0) L rfl hrow.out (.slice (some ⟨w3.heap.size, 0, none⟩) 1 1) rfl hsrc.out hlm.out hly.out hbb.out ?_; intro a' c' w6 hrowN hu6 hat6; obtain ⟨hf6, oc6, oq6, of6⟩ := hfin.out _ _ hrowN hu6 hat6; replace hf6 := Lib.hid hf6; replace hrowN := Lib.hid hrowN; replace hu6 := Lib.hid hu6; replace hat6 := Lib.hid hat6))
        all_goals
          go_wp2_with fail
          go_meet
          exact ⟨_, by rw [hvl.out]; exact hf6.out.1, hf6.out.2.1, hf6.out.2.2⟩
    case rest =>
      obtain ⟨v1, hD4, hU4, hO4⟩ := hcut
      obtain ⟨w4, hw4⟩ : ∃ w4, w4 = wc := ⟨_, rfl⟩
      rw [← hw4] at hD4 hU4 ⊢
      clear hw4 n1 n2 n3 n4 nq nf
      have hPO : PB ≠ OB := tag_ne hbp.out hD3.out.ob (by decide)
      have hbp4 := hU4.heap hbp.out (fun hm => (List.mem_cons.1 hm).elim hPO (hD3.out.rowNe hbp.out (by decide)))
      have e44 := hU4.heap e43.out (fun hm => by
        rcases List.mem_cons.1 hm with h1 | h1
        · have := hD3.out.q.2.1
          omega
        · have := (hD3.out.row.lt _ (mem_own h1)).1
          omega)
      obtain ⟨n1, n2, n3, n4, nq, nf⟩ := nx_cells e44
      have hA4 := h.out.below hD4.bel
      obtain ⟨Bk, hBk⟩ := hA4.am.kidsAt (nb := n.nb) (L := n.kids) (h.out.am.kid _ hx.out)
      have hAll := anAll_any hBk
      have hks := h.out.ok.srt _ hx.out
      replace hks := Lib.hid hks
      replace hD4 := Lib.hid hD4
      replace hU4 := Lib.hid hU4
      replace hO4 := Lib.hid hO4
      replace hbp4 := Lib.hid hbp4
      replace e44 := Lib.hid e44
      replace hA4 := Lib.hid hA4
      replace hPO := Lib.hid hPO
      clear hBk n1 n2 n3
      go_wp2_with fail
      refine hAll.mono ?_
      clear hAll
      rintro e5 w5 ⟨kx, hx', va, vh, rfl, hM⟩
      go_upto_block 0 with fail
      have hb45 := hM.bel
      have hBk : ∀ q, q ∈ bkL kx hx' va vh → w4.heap.size ≤ q ∧ q < w5.heap.size := fun q hq => by
        unfold bkL at hq
        rcases List.mem_cons.1 hq with rfl | hq
        · exact ⟨hM.lx.1, heap_lt hM.bk⟩
        · rcases List.mem_cons.1 hq with rfl | hq
          · exact ⟨hM.lx.2, heap_lt hM.bh⟩
          · rcases List.mem_append.1 hq with hq | hq
            · exact hM.ky.lt q (by simpa using hq)
            · exact hM.kd.lt q (by simpa using hq)
      have hkl := ks_len hks.out
      have hstop := anAll1_stopsM Fence.wide 5 trivial rfl (by omega) hM (by omega)
      have hw15 : w1.heap.size ≤ w5.heap.size := Nat.le_trans hD4.out.bel.size hb45.size
      have hown : OwnFrom w5.heap.size (fun pre : List { y : UInt8 × Hd // y ∈ n.kids } => DnJ w1 T.t tB OB FB PB w4 w5 v1 pth C n.path (L ++ vals n) (pre.map (·.1))) := DnJ.own hw15 hb45.size
      have hI0 : DnJ w1 T.t tB OB FB PB w4 w5 v1 pth C n.path (L ++ vals n) [] w5 := ⟨⟨v1, by rw [show kidsC C n.path [] = [] from rfl, List.append_nil]; exact hD4.out.below hb45, DnOwn.refl _ _⟩, Below.heap' hb45 hbp4.out, Nat.le_refl _, Upd.of_below hb45⟩
      replace hI0 := Lib.hid hI0
      replace hM := Lib.hid hM
      refine wp_block ?_
      refine (wpIn_wide (n := 6)).1 ?_
      refine wpIn_rangeFunc_ownH (a := _) (w := w5) rfl (by omega) (gf := 67) (lb := #[.pointer (some ⟨kx, 0, none⟩), .pointer (some ⟨hx', 0, none⟩)]) rfl trivial (enters_of Tryz.func67 (by kernel_rfl) rfl) hstop KpL.trans (fun W l o o' h1 _ _ _ => KpL.putObj (fun q hq => (hBk q hq).2) W l o' h1) (Below.refl _ _) (fun _ => rfl)
        (fun pre : List { y : UInt8 × Hd // y ∈ n.kids } => DnJ w1 T.t tB OB FB PB w4 w5 v1 pth C n.path (L ++ vals n) (pre.map (·.1))) (fun _ _ _ => False) hown (fun _ _ _ _ _ hs _ _ => hs) hI0.out
        (fun y a' V => ∃ Bx, w5.heap.size ≤ Bx ∧ V.heap[Bx]? = some (.cells #[.int .i64 y.1.2.1, .int .u64 y.1.2.2] 77) ∧ a' = { tmps := #[hV (g1, g2), .string path, .pointer (some ⟨tB, 0, none⟩), .pointer (some ⟨OB, 0, none⟩), .pointer (some ⟨FB, 0, none⟩), .pointer (some ⟨W.heap.size, 0, none⟩), .pointer (some ⟨PB, 0, none⟩), .pointer (some ⟨eb, 1, none⟩), .int .u8 y.1.1.toNat, .pointer (some ⟨Bx, 0, none⟩), u10, u11, u12, u13, u14, u15, u16, u17, u18, u19, u20, u21, u22, u23, u24, u25, u26, u27, u28, u29, u30, u31, .pointer (some ⟨eb, 1, none⟩), .pointer (some ⟨eb, 1, none⟩), .pointer (some ⟨eb, 4, none⟩), .pointer (some ⟨n.nb, 0, none⟩), .func (.func 67) #[] #[.pointer (some ⟨kx, 0, none⟩), .pointer (some ⟨hx', 0, none⟩)], .int .u8 y.1.1.toNat, hV y.1.2, undef, undef, undef, undef, undef, undef, undef, undef], defers := [] })
        (fun y a' _ X Y row hs hg hr => by obtain ⟨Bx, h1, h2, h3⟩ := hs; exact ⟨Bx, h1, (grown_upd hg).heap h2 (noCells (fun r e => (hr r e).2) h2), h3⟩)
        ?assign ?body ?done ?stop
      case assign =>
        intro l pre y W K hI hK
        have hal : Below W.heap.size W (W.alloc (.cells #[.int .i64 y.1.2.1, .int .u64 y.1.2.2] 77)) := (Below.refl _ _).alloc (Nat.le_refl _) _
        have hal2 : Upd [] W (W.alloc (.cells #[.int .i64 y.1.2.1, .int .u64 y.1.2.2] 77)) := Upd.of_below hal
        gi_wp2
        refine hK _ _ ((KeepsOthers.alloc _ _).from _) (fun q hq => hal2.block q (Nat.lt_of_lt_of_le (hBk q hq).2 hI.2.2.1) (by simp)) ?_ ⟨W.heap.size, hI.2.2.1, heap_alloc_new _ _, rfl⟩
        obtain ⟨⟨v', hDV, hOV⟩, hpV, hsV, hUV⟩ := hI
        exact ⟨⟨v', hDV.below hal, hOV⟩, Below.heap' hal hpV, Nat.le_trans hsV hal.size, hUV.trans (Upd.of_below hal)⟩
      case body =>
        rintro l pre ⟨⟨yb, yh⟩, hym⟩ a' V hl0 ⟨r, hr⟩ hI ⟨Bx, hBx, hbox, rfl⟩ hlt
        obtain ⟨⟨v', hDV, hOV⟩, hpV, hsV, hUV⟩ := hI
        obtain ⟨m, hm1, hm2⟩ := h.out.ok.dn _ hx.out _ hym
        have hns := nsub_lt h.out.ok hx.out hym hm1
        have hCl : C.length ≤ 4096 := by
          have h1 := sub_count h.out.ok h.out.ct
          have h2 : (T.F.filter fun x => x.2.val.isSome).length ≤ T.F.length := List.length_filter_le _ _
          have h3 := h.out.am.freeLen
          omega
        have hpl : (L ++ vals n ++ kidsC C n.path (pre.map (·.1))).length + (nsub T.F m.path).length * 1100000 ≤ 5000000000 := by
          have h1 := hL.out
          have h2 := vals_len n
          have h3 := kidsC_len C n.path (pre.map (·.1))
          have h4 : (pre.map (·.1)).length * C.length ≤ 256 * 4096 := Nat.mul_le_mul (by rw [List.length_map]; omega) hCl
          simp only at hns h1
          rw [List.length_append, List.length_append]
          omega
        have hbV : Below V.heap.size V (V.alloc (.cells #[.int .u8 yb.toNat] 5)) := (Below.refl _ _).alloc (Nat.le_refl _) _
        obtain ⟨sb, hsb⟩ : ∃ sb, sb = bs [yb] := ⟨_, rfl⟩
        have hcv : (convert 98 9 (.slice (some ⟨V.heap.size, 0, none⟩) 1 1)).run Tryz.prog (V.alloc (.cells #[.int .u8 yb.toNat] 5)) = .ok (.string sb) (V.alloc (.cells #[.int .u8 yb.toNat] 5)) := by
          rw [hsb]
          exact run_convert_bytes_back (V.alloc (.cells #[.int .u8 yb.toNat] 5)) 98 9 5 ⟨V.heap.size, 0, none⟩ 1 [yb] Tryz.underlying98 Tryz.underlying5 Tryz.underlying9 (fun j hj => by
            have : j = 0 := by simpa using hj
            subst this
            rw [show (Addr.add ⟨V.heap.size, 0, none⟩ 0) = (⟨V.heap.size, 0, none⟩ : Addr) from rfl, cell_of_heap (heap_alloc_new V _)]
            rfl)
        have hpthz : pth.size ≤ 1200 := by rw [hpth.out, ByteArray.size_append]; omega
        have hsbz : sb.size = 1 := by rw [hsb]; rfl
        have hno1 : ¬ 9223372036854775807 < pth.size + sb.size := by omega
        have hc := hRec.out (yb, yh) m _ _ _ (pth ++ sb) hym hm1 (by rw [bl_app, hpn.out, hsb, bl_bs, List.append_assoc]; exact hm2) hpl (hDV.below hbV)
        have hub : Upd (OB :: v'.ownBlock.toList) V (V.alloc (.cells #[.int .u8 yb.toNat] 5)) := Upd.of_below hbV
        have hfin : Hid (∀ V' v2, DnI w1 T.t tB OB FB V' v2 (L ++ vals n ++ kidsC C n.path (pre.map (·.1)) ++ sub C m.path) → Upd (OB :: v'.ownBlock.toList) (V.alloc (.cells #[.int .u8 yb.toNat] 5)) V' → DnOwn (V.alloc (.cells #[.int .u8 yb.toNat] 5)).heap.size v' v2 →
            KeepsFrom w5.heap.size V V' ∧ KpL (bkL kx hx' va vh) V V' ∧ DnJ w1 T.t tB OB FB PB w4 w5 v1 pth C n.path (L ++ vals n) ((pre ++ [(⟨(yb, yh), hym⟩ : { y : UInt8 × Hd // y ∈ n.kids })]).map (·.1)) V') := Lib.hid fun V' v2 h1 h2 h3 => by
          have hu := hub.trans h2
          have hown1 : ∀ q, q ∈ v'.ownBlock.toList → v1.ownBlock = some q ∨ w5.heap.size ≤ q := fun q hq => hOV q (mem_own hq)
          have hPO' : PB ∉ OB :: v'.ownBlock.toList := fun hm => (List.mem_cons.1 hm).elim hPO.out (hDV.rowNe hpV (by decide))
          refine ⟨below_keepsFrom hu fun q hq => ?_, fun q hq => hu.block q (Nat.lt_of_lt_of_le (hBk q hq).2 hsV) fun hm => ?_, ⟨v2, ?_, fun q hq => ?_⟩, hu.heap hpV hPO', Nat.le_trans hsV hu.size, hUV.via hu fun q hq => ?_⟩
          · rcases List.mem_cons.1 hq with rfl | hq
            · exact ⟨_, _, hDV.ob⟩
            · obtain ⟨c', hc'⟩ := hDV.row.tagB (mem_own hq)
              exact ⟨_, _, hc'⟩
          · have hq1 := hBk q hq
            rcases List.mem_cons.1 hm with rfl | hm
            · have := heap_lt hD4.out.ob
              omega
            · rcases hown1 q hm with h4 | h4
              · have := (hD4.out.row.lt q h4).2
                omega
              · omega
          · have hk : kidsC C n.path ((pre ++ [(⟨(yb, yh), hym⟩ : { y : UInt8 × Hd // y ∈ n.kids })]).map (·.1)) = kidsC C n.path (pre.map (·.1)) ++ sub C m.path := by
              unfold kidsC
              rw [List.map_append, List.flatMap_append]
              congr 1
              simp only [List.map_cons, List.map_nil, List.flatMap_cons, List.flatMap_nil, List.append_nil]
              exact sub_kid h.out.ok h.out.ct hx.out hym hm1
            rw [hk, ← List.append_assoc]
            exact h1
          · rcases h3 q hq with h4 | h4
            · exact hOV q h4
            · exact .inr (Nat.le_trans hsV (Nat.le_trans hbV.size h4))
          · rcases List.mem_cons.1 hq with rfl | hq
            · exact .inl (by simp)
            · rcases hown1 q hq with h4 | h4
              · exact .inl (List.mem_cons_of_mem _ (by simpa using h4))
              · exact .inr (Nat.le_trans hb45.size h4)
        have f0 : V.cell? ⟨FB, 0, none⟩ = some (.func (.func 40) #[] #[.pointer (some ⟨tB, 0, none⟩), .pointer (some ⟨OB, 0, none⟩), .pointer (some ⟨FB, 0, none⟩)]) := by rw [cell_of_heap hDV.fb]; rfl
        have fq := heap_lt hDV.fb
        have p0 : V.cell? ⟨PB, 0, none⟩ = some (.string pth) := by rw [cell_of_heap hpV]; rfl
        have pq := heap_lt hpV
        obtain ⟨z0, z1⟩ := box2 hbox
        have zl := heap_lt hbox
        replace hc := Lib.hid hc
        replace hDV := Lib.hid hDV
        replace hsb := Lib.hid hsb
        clear hI0 hM hown hstop hbox hpV hUV hub hpl hOV hr hlt hCl hns hm2 hbV
        gi_wp2
        refine ⟨trivial, (CallsIn.inRound l (callsIn_wide.2 hc.out)).mono ?_⟩
        clear hc
        rintro e6 V' ⟨rfl, v2, h1, h2, h3⟩
        have hf := Lib.hid (hfin.out V' v2 h1 h2 h3)
        gi_wp2
        exact hf.out
      case done =>
        rintro D xs W6 hD hS hI hK
        obtain ⟨⟨v', hDV, hOV⟩, hpV, hsV, hUV⟩ := hI
        have hS' : xs.map (·.1) = n.kids := hS
        rw [hS'] at hDV
        have hrow : ∀ r, (some D : Option Nat) = some r → ∃ o : Obj, W6.heap[r]? = some o ∧ o.isCells = false := fun r e => by
          injection e with e
          subst e
          exact ⟨_, hK, rfl⟩
        have hn1 : w1.heap.size ≤ D := Nat.le_trans hw15 hD
        have hfin : ∀ o, DnEnd w1 T.t tB OB FB W v L (sub C n.path) (.returned (.tuple #[])) (W6.putObj D o) := fun o => by
          have hu : Upd [D] W6 (W6.putObj D o) := (grown_upd (grownBy_putObj' W6 D o)).mono (by simp)
          have nc : ∀ {q c ty}, W6.heap[q]? = some (.cells c ty) → q ∉ [D] := fun hq hm => noCells hrow hq (by simpa using hm)
          have hWw4 : W.heap.size ≤ w4.heap.size := Nat.le_trans hU3.out.size hU4.out.size
          refine ⟨rfl, v', ?_, ?_, fun q hq => ?_⟩
          · rw [hsub.out, ← List.append_assoc]
            refine hDV.upd hu (fun q hq => by rw [List.mem_singleton.1 hq]; exact hn1) (nc hDV.tb) (nc hDV.ob) (nc hDV.fb) fun q hq => ?_
            obtain ⟨c', hc'⟩ := hDV.row.tagB hq
            exact nc hc'
          · have hv1 : ∀ q, q ∈ OB :: v1.ownBlock.toList → q ∈ OB :: v.ownBlock.toList ∨ W.heap.size ≤ q := fun q hq => by
              rcases List.mem_cons.1 hq with rfl | hq
              · exact .inl (by simp)
              · rcases hO4.out q (mem_own hq) with h1 | h1
                · exact .inl (List.mem_cons_of_mem _ (by simpa using h1))
                · exact .inr (Nat.le_trans hU3.out.size h1)
            exact (((hU3.out.trans hU4.out).via hUV hv1)).via hu (fun q hq => .inr (by rw [List.mem_singleton.1 hq]; exact Nat.le_trans hWw4 (Nat.le_trans hb45.size hD)))
          · rcases hOV q hq with h1 | h1
            · rcases hO4.out q h1 with h2 | h2
              · exact .inl h2
              · exact .inr (Nat.le_trans hU3.out.size h2)
            · exact .inr (Nat.le_trans hWw4 (Nat.le_trans hb45.size h1))
        refine ⟨by simp, .inl ⟨_, _, rfl, run_takeDeferred hK, ?_⟩⟩
        exact ⟨_, results_none rfl _ _ _, hfin _⟩
      case stop =>
        rintro D c pre W6 _ _ hx6 _
        exact hx6.elim
theorem dn_any (h : AT w0 w1 T C) : ∀ N, ∀ x, x ∈ T.F → (nsub T.F x.2.path).length < N → ∀ W v L path, x.2.path = bl path ++ bl x.2.pre → L.length + (nsub T.F x.2.path).length * 1100000 ≤ 5000000000 → DnI w1 T.t tB OB FB W v L →
    Calls Tryz.prog 40 #[hV x.1, .string path, .pointer (some ⟨tB, 0, none⟩), .pointer (some ⟨OB, 0, none⟩), .pointer (some ⟨FB, 0, none⟩)] W (DnEnd w1 T.t tB OB FB W v L (sub C x.2.path)) := by
  intro N
  induction N with
  | zero => intro x _ h0; omega
  | succ N ih =>
    intro x hx hN W v L path hp hL hD
    refine dn_step h hx hD path hp hL fun y m W' v' L' pth hy hm hmp hL' hD' => ?_
    have := nsub_lt h.ok hx hy hm
    exact ih (y.2, m) hm (by simp only; omega) W' v' L' pth hmp hL' hD'
end
end Go.Proofs.YtmhlokomlngdmaaGreat
namespace Go.Proofs.YtmhlokomlngdmaaGreat
open Go.RowKit
section
variable {w0 w : World} {T : TS} {C : Cont}
/-- A slice of pairs of the call's own. -/
def AllEnd (w : World) (C : Cont) (x : Ending) (w' : World) : Prop := ∃ a c, x = .returned (.slice a C.length c) ∧ Row w.heap.size 57 2 pcel w' (.slice a C.length c) C ∧ Below w.heap.size w w'
set_option maxRecDepth 100000 in
set_option maxHeartbeats 4000000 in
theorem AT.all (h : AT w0 w T C) : Calls Tryz.prog 14 #[.pointer (some ⟨T.t, 0, none⟩)] w (AllEnd w C) := by
  obtain ⟨rn, hrn, hrp, hrs⟩ := h.ok.root
  obtain ⟨hbx, hby⟩ := heap_two w (.cells #[.pointer (some ⟨T.t, 0, none⟩)] 30) (.cells #[.slice none 0 0] 35)
  have hBe := below_two w (.cells #[.pointer (some ⟨T.t, 0, none⟩)] 30) (.cells #[.slice none 0 0] 35)
  replace h := Lib.hid h
  go_enter Tryz.func14, Tryz.ntmps14
  go_upto_region 2 with fail
  generalize (w.alloc (.cells #[.pointer (some ⟨T.t, 0, none⟩)] 30)).alloc (.cells #[.slice none 0 0] 35) = W0 at *
  obtain ⟨_, c1, c2, c3, _, c5, hq⟩ := (h.out.below hBe).am.cells
  have hO := out_ok c1 c5
  have t0 : W0.cell? ⟨w.heap.size, 0, none⟩ = some (.pointer (some ⟨T.t, 0, none⟩)) := by rw [cell_of_heap hbx]; rfl
  have tq := heap_lt hbx
  obtain ⟨OB, hOB⟩ : ∃ OB, OB = w.heap.size + 1 := ⟨_, rfl⟩
  rw [← hOB] at hby ⊢
  replace hbx := Lib.hid hbx
  replace hby := Lib.hid hby
  replace hBe := Lib.hid hBe
  replace hOB := Lib.hid hOB
  clear c1 c5
  go_wp2_with fail
  refine hO.mono ?_
  clear hO
  rintro e w1 ⟨rfl, rfl⟩
  go_upto_region 6 with fail
  have hFn := heap_alloc_new W0 (.cells #[.func (.func 40) #[] #[.pointer (some ⟨w.heap.size, 0, none⟩), .pointer (some ⟨OB, 0, none⟩), .pointer (some ⟨W0.heap.size, 0, none⟩)]] 92)
  have hBf : Below W0.heap.size W0 (W0.alloc (.cells #[.func (.func 40) #[] #[.pointer (some ⟨w.heap.size, 0, none⟩), .pointer (some ⟨OB, 0, none⟩), .pointer (some ⟨W0.heap.size, 0, none⟩)]] 92)) := (Below.refl _ _).alloc (Nat.le_refl _) _
  generalize W0.alloc (.cells #[.func (.func 40) #[] #[.pointer (some ⟨w.heap.size, 0, none⟩), .pointer (some ⟨OB, 0, none⟩), .pointer (some ⟨W0.heap.size, 0, none⟩)]] 92) = W1 at *
  have hFq : w.heap.size ≤ W0.heap.size := hBe.out.size
  obtain ⟨FB, hFB⟩ : ∃ FB, FB = W0.heap.size := ⟨_, rfl⟩
  rw [← hFB] at hFn hFq ⊢
  replace hFB := Lib.hid hFB
  have hB1 := hBe.out.trans (hBf.mono hBe.out.size)
  have hbx1 := Below.heap' hBf hbx.out
  have hby1 := Below.heap' hBf hby.out
  have t0 : W1.cell? ⟨w.heap.size, 0, none⟩ = some (.pointer (some ⟨T.t, 0, none⟩)) := by rw [cell_of_heap hbx1]; rfl
  have tq := heap_lt hbx1
  have f0 : W1.cell? ⟨FB, 0, none⟩ = some (.func (.func 40) #[] #[.pointer (some ⟨w.heap.size, 0, none⟩), .pointer (some ⟨OB, 0, none⟩), .pointer (some ⟨FB, 0, none⟩)]) := by rw [cell_of_heap hFn]; rfl
  have fq := heap_lt hFn
  have c2 := keep hBf c2
  have c3 := keep hBf c3
  have hq := Nat.lt_of_lt_of_le hq hBf.size
  have hD : DnI w T.t w.heap.size OB FB W1 (.slice none 0 0) [] := ⟨hB1, hbx1, hby1, hFn, Row.nil pcel_len pcel_one _ _ _, ⟨Nat.le_refl _, by rw [hOB.out]; omega, hFq⟩⟩
  have hC := Lib.hid fun W (hW : Below W1.heap.size W1 W) => dn_any h.out ((nsub T.F rn.path).length + 1) (T.r, rn) hrn (Nat.lt_succ_self _) W _ _ ⟨#[]⟩ (by show rn.path = _; rw [hrp, hrs]; rfl) (by
      have h1 := nsub_le T.F rn.path
      have h2 := h.out.am.freeLen
      show ([] : Cont).length + (nsub T.F rn.path).length * 1100000 ≤ 5000000000
      simp only [List.length_nil]
      omega) (hD.below hW)
  replace hD := Lib.hid hD
  replace hFn := Lib.hid hFn
  replace hBf := Lib.hid hBf
  replace hB1 := Lib.hid hB1
  replace hbx1 := Lib.hid hbx1
  replace hby1 := Lib.hid hby1
  have hsubr : sub C rn.path = C := by rw [hrp]; exact sub_nil
  replace hsubr := Lib.hid hsubr
  clear hbx hby hFq hrp hrs hrn
  go_region_held3 (fun W' => W'.cell? ⟨w.heap.size, 0, none⟩ = some (.pointer (some ⟨T.t, 0, none⟩)) ∧ W'.cell? ⟨FB, 0, none⟩ = some (.func (.func 40) #[] #[.pointer (some ⟨w.heap.size, 0, none⟩), .pointer (some ⟨OB, 0, none⟩), .pointer (some ⟨FB, 0, none⟩)]) ∧ W'.cell? ⟨T.t, 2, none⟩ = some (.int .i64 T.r.1) ∧ W'.cell? ⟨T.t, 3, none⟩ = some (.int .u64 T.r.2)) (first | exact ⟨t0, f0, c2, c3⟩ | exact ⟨i0, i1, i2, i3⟩ | go_keep) (first
    | (go_at_call 40; refine (hC.out _ bel_dw).mono ?_; rintro y w2 ⟨rfl, v', hD2, hU2, hO2⟩; have i0 : w2.cell? ⟨w.heap.size, 0, none⟩ = some (.pointer (some ⟨T.t, 0, none⟩)) := (by rw [cell_of_heap hD2.tb]; rfl); have i1 : w2.cell? ⟨FB, 0, none⟩ = some (.func (.func 40) #[] #[.pointer (some ⟨w.heap.size, 0, none⟩), .pointer (some ⟨OB, 0, none⟩), .pointer (some ⟨FB, 0, none⟩)]) := (by rw [cell_of_heap hD2.fb]; rfl); obtain ⟨_, _, i2, i3, _, _, _⟩ := (h.out.below hD2.bel).am.cells; obtain ⟨a, c, hsh⟩ := hD2.row.shape; have o0 : w2.cell? ⟨OB, 0, none⟩ = some v' := (by rw [cell_of_heap hD2.ob]; rfl); have oq := heap_lt hD2.ob; rw [hsh] at o0; replace hsh := Lib.hid hsh; replace hD2 := Lib.hid hD2; replace hU2 := Lib.hid hU2; replace hO2 := Lib.hid hO2))
  all_goals
    go_wp2_with fail
    go_ret
    have hr := hD2.out.row
    rw [hsh.out, List.nil_append, hsubr.out] at hr
    exact ⟨a, c, by rw [hsubr.out]; rfl, hr, hD2.out.bel⟩
end
end Go.Proofs.YtmhlokomlngdmaaGreat
