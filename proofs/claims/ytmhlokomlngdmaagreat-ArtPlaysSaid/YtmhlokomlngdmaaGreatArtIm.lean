/- A node's All: what is handed back walks two slices that hold the children. The iterator that a node's All hands back. The iterator that a node's All hands back, for rounds that want to know that a child is one. -/
import Derived.Test.YtmhlokomlngdmaaGreatArtKn
import Derived.RangeFuncNested
import Derived.RangeFuncBound
import Derived.RangeFuncCalls
import Derived.RangeFuncLeaves
import Derived.RangeFuncWrites
import Derived.Shelf.Abstract
import Derived.Shelf.RegionOpen
import Derived.WalkKit
import Derived.OwnWalkIn
import Derived.TacticsInMore
import Derived.LoopNIn
import Derived.LoopIn
namespace Go.Proofs.YtmhlokomlngdmaaGreat
open Go.RowKit
theorem kfrom_mid {A M : KL} {y : UInt8 × Hd} (hs : KSort (A ++ y :: M)) : kfrom (A ++ y :: M) (y.1.toNat + 1) = M.head? := by
  obtain ⟨_, h2, h3⟩ := List.pairwise_append.1 hs
  obtain ⟨h4, _⟩ := List.pairwise_cons.1 h2
  unfold kfrom
  rw [List.find?_append, find_none (l := A) (fun z hz => decide_eq_false (by have := UInt8.lt_iff_toNat_lt.1 (h3 z hz y (by simp)); omega)), Option.none_or, List.find?_cons, decide_eq_false (by omega)]
  exact find_head fun z hz => decide_eq_true (by have := UInt8.lt_iff_toNat_lt.1 (h4 z hz); omega)
theorem kfrom_zero (L : KL) : kfrom L 0 = L.head? := find_head fun _ _ => by simp
theorem byte_info : ∃ i0 : TypeInfo, Tryz.prog.info? 5 = some i0 ∧ i0.zero = some (.int .u8 0) ∧ i0.size = 1 ∧ i0.bytes = 1 := InByte.info
theorem hdl_info : ∃ i0 : TypeInfo, Tryz.prog.info? 77 = some i0 ∧ i0.zero = some (.agg #[.int .i64 0, .int .u64 0]) ∧ i0.size = 2 ∧ i0.bytes = 16 := InHd.info
/-- The two slices that All fills: their boxes kx and hx hold v0 and h0; the rows have come to va and vh. -/
structure AllM (w0 w : World) (kx hx : Nat) (v0 h0 va vh : Value) (M : List UInt8) (H : List Hd) : Prop where
  bel : Below w0.heap.size w0 w
  lx : w0.heap.size ≤ kx ∧ w0.heap.size ≤ hx
  bk : w.heap[kx]? = some (.cells #[v0] 98)
  bh : w.heap[hx]? = some (.cells #[h0] 42)
  ky : Row w0.heap.size 5 1 bcel w va M
  kd : Row w0.heap.size 77 2 hcel w vh H
def hdB (M : KL) : Int := match M with | y :: _ => y.1.toNat | [] => 0
def hdG (M : KL) : Hd := match M with | y :: _ => y.2 | [] => (0, 0)
def hdF (M : KL) : Bool := match M with | _ :: _ => true | [] => false
theorem fromV_head (M : KL) : fromV M.head? = .tuple #[.int .u8 (hdB M), hV (hdG M), .bool (hdF M)] := by cases M <;> rfl
theorem srcOf_box {W : World} {vb : Nat} {cs : List Value} {t : TypeId} (h : W.heap[vb]? = some (.cells cs.toArray t)) (h1 : ∀ u ∈ cs, u.oneCell' = true) {k : Nat} (hk : cs.length = k) : SrcOf W (.slice (some ⟨vb, 0, none⟩) 1 1) 1 k cs :=
  ⟨by rw [hk, Nat.one_mul], h1, .inr ⟨_, _, rfl, fun j y hj => by
    rw [Addr.add_lit, Nat.zero_add, cell_of_heap h]
    simpa using hj⟩⟩
section
variable {w0 w w' : World} {kx hx : Nat} {v0 h0 va vh va' vh' : Value} {M M' : List UInt8} {H H' : List Hd}
theorem AllM.below (h : AllM w0 w kx hx v0 h0 va vh M H) (hb : Below w.heap.size w w') : AllM w0 w' kx hx v0 h0 va vh M H :=
  ⟨h.bel.trans (hb.mono h.bel.size), h.lx, Below.heap' hb h.bk, Below.heap' hb h.bh, h.ky.below hb, h.kd.below hb⟩
theorem below_upd {S : List Nat} (h : Below w0.heap.size w0 w) (hu : Upd S w w') (hS : ∀ q, q ∈ S → w0.heap.size ≤ q) : Below w0.heap.size w0 w' := h.trans (Upd.below hu h.size hS)
theorem AllM.turnA (h : AllM w0 w kx hx v0 h0 va vh M H) (hu : Upd va.ownBlock.toList w w') (hr : Row w0.heap.size 5 1 bcel w' va' M') : AllM w0 w' kx hx v0 h0 va' vh M' H := by
  have hin : ∀ q, q ∈ va.ownBlock.toList → va.ownBlock = some q := fun q hq => by simpa using hq
  have hne : ∀ q c t, t ≠ 5 → w.heap[q]? = some (.cells c t) → q ∉ va.ownBlock.toList := fun q c t ht hq hq' => by
    obtain ⟨c', hc'⟩ := h.ky.tagB (hin q hq')
    exact tag_ne hq hc' ht rfl
  refine ⟨below_upd h.bel hu fun q hq => (h.ky.lt q (hin q hq)).1, h.lx, hu.heap h.bk (hne _ _ _ (by decide) h.bk), hu.heap h.bh (hne _ _ _ (by decide) h.bh), hr, h.kd.upd hu fun q hq => ?_⟩
  obtain ⟨c', hc'⟩ := h.kd.tagB hq
  exact hne q _ _ (by decide) hc'
theorem AllM.turnH (h : AllM w0 w kx hx v0 h0 va vh M H) (hu : Upd vh.ownBlock.toList w w') (hr : Row w0.heap.size 77 2 hcel w' vh' H') : AllM w0 w' kx hx v0 h0 va vh' M H' := by
  have hin : ∀ q, q ∈ vh.ownBlock.toList → vh.ownBlock = some q := fun q hq => by simpa using hq
  have hne : ∀ q c t, t ≠ 77 → w.heap[q]? = some (.cells c t) → q ∉ vh.ownBlock.toList := fun q c t ht hq hq' => by
    obtain ⟨c', hc'⟩ := h.kd.tagB (hin q hq')
    exact tag_ne hq hc' ht rfl
  refine ⟨below_upd h.bel hu fun q hq => (h.kd.lt q (hin q hq)).1, h.lx, hu.heap h.bk (hne _ _ _ (by decide) h.bk), hu.heap h.bh (hne _ _ _ (by decide) h.bh), h.ky.upd hu fun q hq => ?_, hr⟩
  obtain ⟨c', hc'⟩ := h.ky.tagB hq
  exact hne q _ _ (by decide) hc'
theorem AllM.cells (h : AllM w0 w kx hx v0 h0 va vh M H) : w.cell? ⟨kx, 0, none⟩ = some v0 ∧ w.cell? ⟨hx, 0, none⟩ = some h0 ∧ kx < w.heap.size ∧ hx < w.heap.size ∧ w.frozen? ⟨kx, 0, none⟩ = false ∧ w.frozen? ⟨hx, 0, none⟩ = false ∧ kx ≠ hx :=
  ⟨by rw [cell_of_heap h.bk]; rfl, by rw [cell_of_heap h.bh]; rfl, heap_lt h.bk, heap_lt h.bh, frozen_of_heap h.bk 0, frozen_of_heap h.bh 0, tag_ne h.bk h.bh (by decide)⟩
/-- The boxes are written. -/
theorem AllM.fin (h : AllM w0 w kx hx v0 h0 va vh M H) : AllM w0 ((w.setCell ⟨kx, 0, none⟩ va).setCell ⟨hx, 0, none⟩ vh) kx hx va vh va vh M H ∧ Upd [kx, hx] w ((w.setCell ⟨kx, 0, none⟩ va).setCell ⟨hx, 0, none⟩ vh) := by
  have hu : Upd [kx, hx] w ((w.setCell ⟨kx, 0, none⟩ va).setCell ⟨hx, 0, none⟩ vh) := ((Upd.refl [kx, hx] w).setCell (p := ⟨kx, 0, none⟩) (by simp) _).setCell (p := ⟨hx, 0, none⟩) (by simp) _
  have hkh : kx ≠ hx := tag_ne h.bk h.bh (by decide)
  refine ⟨⟨below_upd h.bel hu fun q hq => ?_, h.lx, ?_, ?_, h.ky.upd hu fun q hq hq' => ?_, h.kd.upd hu fun q hq hq' => ?_⟩, hu⟩
  · simp at hq
    rcases hq with rfl | rfl
    · exact h.lx.1
    · exact h.lx.2
  · rw [heap_set_other _ _ (by simpa using hkh), heap_self, h.bk]; rfl
  · rw [heap_self, heap_set_other _ _ (by simpa using Ne.symm hkh), h.bh]; rfl
  · obtain ⟨c, hc⟩ := h.ky.tagB hq
    simp at hq'
    rcases hq' with rfl | rfl
    · exact tag_ne hc h.bk (by decide) rfl
    · exact tag_ne hc h.bh (by decide) rfl
  · obtain ⟨c, hc⟩ := h.kd.tagB hq
    simp at hq'
    rcases hq' with rfl | rfl
    · exact tag_ne hc h.bk (by decide) rfl
    · exact tag_ne hc h.bh (by decide) rfl
/-- A box of the call's own is written. -/
theorem AllM.other (h : AllM w0 w kx hx v0 h0 va vh M H) {q : Nat} {a b : Value} (hq : w.heap[q]? = some (.cells #[a, b] 77)) (hw : w0.heap.size ≤ q) (hv : ∀ r, vh.ownBlock = some r → r ≠ q) (u v : Value) : AllM w0 ((w.setCell ⟨q, 0, none⟩ u).setCell ⟨q, 1, none⟩ v) kx hx v0 h0 va vh M H ∧ ((w.setCell ⟨q, 0, none⟩ u).setCell ⟨q, 1, none⟩ v).heap[q]? = some (.cells #[u, v] 77) := by
  have hu : Upd [q] w ((w.setCell ⟨q, 0, none⟩ u).setCell ⟨q, 1, none⟩ v) := ((Upd.refl [q] w).setCell (p := ⟨q, 0, none⟩) (by simp) _).setCell (p := ⟨q, 1, none⟩) (by simp) _
  refine ⟨⟨below_upd h.bel hu (fun r hr => by simp at hr; subst hr; exact hw), h.lx, hu.heap h.bk (by simp; exact tag_ne h.bk hq (by decide)), hu.heap h.bh (by simp; exact tag_ne h.bh hq (by decide)), h.ky.upd hu fun r hr hr' => ?_, h.kd.upd hu fun r hr hr' => ?_⟩, box_set hq u v⟩
  · obtain ⟨c, hc⟩ := h.ky.tagB hr
    simp at hr'
    subst hr'
    exact tag_ne hc hq (by decide) rfl
  · simp at hr'
    exact hv r hr hr'
/-- What All hands back. -/
def AllF (w0 w : World) (L : KL) (e : Ending) : Prop := ∃ kx hx va vh, e = .returned (.func (.func 67) #[] #[.pointer (some ⟨kx, 0, none⟩), .pointer (some ⟨hx, 0, none⟩)]) ∧ AllM w0 w kx hx va vh va vh (kb L) (kh L)
set_option maxRecDepth 100000 in
set_option maxHeartbeats 2000000 in
theorem anAll_any {nb : Nat} {B : List Nat} {L : KL} (h : KAt w nb B L) : Calls Tryz.prog 42 #[.pointer (some ⟨nb, 0, none⟩)] w fun e w' => AllF w w' L e := by
  have hB1 : Below w.heap.size w (w.alloc (.cells #[.slice none 0 0] 98)) := (Below.refl _ _).alloc (Nat.le_refl _) _
  have hB2 : Below w.heap.size w ((w.alloc (.cells #[.slice none 0 0] 98)).alloc (.cells #[.slice none 0 0] 42)) := hB1.alloc hB1.size _
  have hk0 := heap_alloc_new w (.cells #[.slice none 0 0] 98)
  have hk1 := Below.heap' ((Below.refl (w.alloc (.cells #[.slice none 0 0] 98)).heap.size _).alloc (Nat.le_refl _) (.cells #[.slice none 0 0] 42)) hk0
  have hk2 := heap_alloc_new (w.alloc (.cells #[.slice none 0 0] 98)) (.cells #[.slice none 0 0] 42)
  rw [World.size_alloc] at hk2
  have hA0 : AllM w _ w.heap.size (w.heap.size + 1) (.slice none 0 0) (.slice none 0 0) (.slice none 0 0) (.slice none 0 0) (kb []) (kh []) := ⟨hB2, ⟨Nat.le_refl _, Nat.le_succ _⟩, hk1, hk2, Row.nil bcel_len bcel_one _ _ _, Row.nil hcel_len hcel_one _ _ _⟩
  have hFr := Lib.hid fun W (hW : Below w.heap.size w W) i (hi : i ≤ 256) => anFrom_any (h.below hW) i hi
  have hs := Lib.hid h.ks
  have hF0 := hFr.out _ hB2 0 (by omega)
  rw [kfrom_zero, fromV_head] at hF0
  replace hF0 := Lib.hid hF0
  clear h hB1 hB2 hk0 hk1 hk2
  go_enter Tryz.func42, Tryz.ntmps42
  go_upto_region 3 with fail
  generalize (w.alloc (.cells #[.slice none 0 0] 98)).alloc (.cells #[.slice none 0 0] 42) = W2 at *
  obtain ⟨hx, hhx⟩ : ∃ hx, hx = w.heap.size + 1 := ⟨_, rfl⟩
  obtain ⟨kx, hkx⟩ : ∃ kx, kx = w.heap.size := ⟨_, rfl⟩
  obtain ⟨n0, hn0⟩ : ∃ n0, n0 = w.heap.size := ⟨_, rfl⟩
  rw [← hhx] at hA0 ⊢
  have hA1 : AllM w W2 kx hx (.slice none 0 0) (.slice none 0 0) (.slice none 0 0) (.slice none 0 0) (kb []) (kh []) := by rw [hkx]; exact hA0
  rw [← hkx]
  replace hhx := Lib.hid hhx
  replace hkx := Lib.hid hkx
  replace hn0 := Lib.hid hn0
  replace hA1 := Lib.hid hA1
  clear hA0
  go_wp2_with fail
  refine hF0.out.mono ?_
  clear hF0
  rintro e w3 ⟨rfl, hb3⟩
  have hA3 := Lib.hid ((hA1.out.below hb3).below ((Below.refl w3.heap.size w3).alloc (Nat.le_refl _) (.cells #[.int .i64 (hdG L).1, .int .u64 (hdG L).2] 77)))
  have hbx := Lib.hid (heap_alloc_new w3 (.cells #[.int .i64 (hdG L).1, .int .u64 (hdG L).2] 77))
  have hxl : Hid (w.heap.size ≤ w3.heap.size) := Lib.hid (Nat.le_trans hA1.out.bel.size hb3.size)
  clear hb3 hA1
  go_upto_block 1 with fail
  generalize w3.alloc (.cells #[.int .i64 (hdG L).1, .int .u64 (hdG L).2] 77) = W4 at *
  generalize w3.heap.size = xb0 at *
  obtain ⟨ib, hib, hzb, hsb, hyb⟩ := byte_info
  obtain ⟨ih, hih, hzh, hsh, hyh⟩ := hdl_info
  have hll := ks_len hs.out
  replace hll := Lib.hid hll
  replace hib := Lib.hid hib
  replace hzb := Lib.hid hzb
  replace hsb := Lib.hid hsb
  replace hyb := Lib.hid hyb
  replace hih := Lib.hid hih
  replace hzh := Lib.hid hzh
  replace hsh := Lib.hid hsh
  replace hyh := Lib.hid hyh
  go_loopg [5, 6, 7] L.length (fun gk v5 v6 v7 wr => ∃ (A M : KL) (xb : Nat) (ka ha : Option Addr) (na kc nh hc : Nat), gk = M.length ∧ L = A ++ M ∧ v5 = .int .u8 (hdB M) ∧ v6 = .pointer (some ⟨xb, 0, none⟩) ∧ v7 = .bool (hdF M) ∧ wr.heap[xb]? = some (.cells #[.int .i64 (hdG M).1, .int .u64 (hdG M).2] 77) ∧ AllM w wr kx hx (.slice ka na kc) (.slice ha nh hc) (.slice ka na kc) (.slice ha nh hc) (kb A) (kh A) ∧ ∀ q, q ∈ ob ha → q ≠ xb)
  case atStart => exact ⟨[], L, xb0, none, none, 0, 0, 0, 0, rfl, rfl, rfl, rfl, rfl, hbx.out, hA3.out, fun q hq => by cases hq⟩
  case round =>
    clear hbx hA3 hxl
    obtain ⟨A, M, xb, ka, ha, na, kc, nh, hc, rfl, hL, rfl, rfl, rfl, hbx, hA, hne⟩ := hrel
    cases M with
    | nil =>
      have hfin : Hid (AllF w wr L (.returned (.func (.func 67) #[] #[.pointer (some ⟨kx, 0, none⟩), .pointer (some ⟨hx, 0, none⟩)]))) := Lib.hid ⟨kx, hx, _, _, rfl, by rw [hL, List.append_nil]; exact hA⟩
      clear hbx hA hne hL
      rw [show hdF ([] : KL) = false from rfl]
      go_wp2_with fail
      go_ret
      exact hfin.out
    | cons y M =>
      rw [show hdB (y :: M) = y.1.toNat from rfl, show hdF (y :: M) = true from rfl]
      rw [show hdG (y :: M) = y.2 from rfl] at hbx
      obtain ⟨c0, c1, q0, q1, _, _, qn⟩ := hA.cells
      obtain ⟨z0, z1⟩ := box2 hbx
      have zl := heap_lt hbx
      have hkA : (kb A).length + 1 ≤ 300 := by
        have := hll.out
        rw [hL, List.length_append, List.length_cons] at this
        rw [List.length_map]; omega
      have hhA : (kh A).length + 1 ≤ 300 := by
        rw [List.length_map] at hkA ⊢; exact hkA
      replace hkA := Lib.hid hkA
      replace hhA := Lib.hid hhA
      have hnx := Lib.hid hne
      replace hL := Lib.hid hL
      replace hA := Lib.hid hA
      replace hbx := Lib.hid hbx
      clear hne
      have hyl : y.1.toNat < 256 := y.1.toNat_lt
      go_upto_block 1 with fail
      go_cut [] (fun wz => ∃ (ka ha : Option Addr) (na kc nh hc : Nat), AllM w wz kx hx (.slice ka na kc) (.slice ha nh hc) (.slice ka na kc) (.slice ha nh hc) (kb (A ++ [y])) (kh (A ++ [y])) ∧ wz.heap[xb]? = some (.cells #[.int .i64 y.2.1, .int .u64 y.2.2] 77))
      case first =>
        go_upto_region 6 with fail
        refine wp_region_late [8, 9] (S := fun w' => w'.cell? ⟨kx, 0, none⟩ = some (.slice ka na kc) ∧ w'.cell? ⟨hx, 0, none⟩ = some (.slice ha nh hc) ∧ w'.cell? ⟨xb, 0, none⟩ = some (.int .i64 y.2.1) ∧ w'.cell? ⟨xb, 1, none⟩ = some (.int .u64 y.2.2)) rfl ⟨c0, c1, z0, z1⟩ (fun hHeld => ?_)
        refine takeM 0 (by simp only [List.getElem?_toArray, List.getElem?_cons_zero]; rfl) hHeld ?_
        refine ⟨by kernel_rfl, by kernel_rfl, by kernel_rfl, by kernel_rfl, by kernel_rfl, ?_, fun _ _ _ h => h, Or.inl ⟨by rfl, ?_⟩, ?_⟩
        rotate_left 1
        · intro w hSw; (try dsimp only at hSw); obtain ⟨i1, i2, i3, i4⟩ := hSw; go_simp; first | done | with_reducible rfl
        try simp only [Act.put, List.setIfInBounds_toArray, List.set_cons_zero, List.set_cons_succ]
        refine takeW 1 (by simp only [List.getElem?_toArray, List.getElem?_cons_succ, List.getElem?_cons_zero]; rfl) ?_
        refine ⟨by kernel_rfl, by kernel_rfl, by kernel_rfl, ?_, fun _ _ _ h => h, Or.inl ⟨by rfl, ?_⟩, ?_⟩
        rotate_left 1
        · intro w hSw; clear hSw; go_simp; first | done | with_reducible rfl
        try simp only [Act.put, List.setIfInBounds_toArray, List.set_cons_zero, List.set_cons_succ]
        refine takeM 4 (by simp only [List.getElem?_toArray, List.getElem?_cons_succ, List.getElem?_cons_zero]; rfl) hHeld ?_
        refine ⟨by kernel_rfl, by kernel_rfl, by kernel_rfl, by kernel_rfl, by kernel_rfl, ?_, fun _ _ _ h => h, Or.inl ⟨by rfl, ?_⟩, ?_⟩
        rotate_left 1
        · intro w hSw; (try dsimp only at hSw); obtain ⟨i1, i2, i3, i4⟩ := hSw; go_simp; first | done | with_reducible rfl
        try simp only [Act.put, List.setIfInBounds_toArray, List.set_cons_zero, List.set_cons_succ]
        refine takeM 5 (by simp only [List.getElem?_toArray, List.getElem?_cons_succ, List.getElem?_cons_zero]; rfl) hHeld ?_
        refine ⟨by kernel_rfl, by kernel_rfl, by kernel_rfl, by kernel_rfl, by kernel_rfl, ?_, fun _ _ _ h => h, Or.inl ⟨by rfl, ?_⟩, ?_⟩
        rotate_left 1
        · intro w hSw; (try dsimp only at hSw); obtain ⟨i1, i2, i3, i4⟩ := hSw; go_simp; first | done | with_reducible rfl
        try simp only [Act.put, List.setIfInBounds_toArray, List.set_cons_zero, List.set_cons_succ]
        replace hA := Lib.hid (hA.out.below (Below.refl _ _).drew)
        replace hbx : Hid (wr.drew.heap[xb]? = some (.cells #[.int .i64 y.2.1, .int .u64 y.2.2] 77)) := hbx
        clear c0 c1 z0 z1 zl q0 q1
        generalize wr.drew = Wc at *
        refine wpAnyM_ready (rs := [2, 6]) (by kernel_rfl) (by simp) ?_
        refine (AllReadyM.cons rfl (fun K hK => ?_) (AllReadyM.cons rfl (fun K hK => ?_) AllReadyM.nil))
        · go_simp
          have hb4 : Below Wc.heap.size Wc (Wc.alloc (.cells #[.int .u8 y.1.toNat] 5)) := (Below.refl _ _).alloc (Nat.le_refl _) _
          have gk := Lib.hid (heap_alloc_new Wc (.cells #[.int .u8 y.1.toNat] 5))
          replace hbx := Lib.hid (Below.heap' hb4 hbx.out)
          replace hA := Lib.hid (hA.out.below hb4)
          clear hb4
          generalize Wc.alloc (.cells #[.int .u8 y.1.toNat] 5) = Wd1 at *
          generalize Wc.heap.size = bk at *
          have hS1 := And.intro hA.out.cells.1 (And.intro hA.out.cells.2.1 (box2 hbx.out))
          refine hK.out _ _ (fun _ _ => hS1) ?_
          clear hHeld hK K
          have hHeld := hS1
          clear hS1
          try simp only [Act.put, List.setIfInBounds_toArray, List.set_cons_zero, List.set_cons_succ]
          refine wpAnyM_ready (rs := [3, 6]) (by kernel_rfl) (by simp) ?_
          refine (AllReadyM.cons rfl (fun K hK => ?_) (AllReadyM.cons rfl (fun K hK => ?_) AllReadyM.nil))
          · have keepA : ∀ {W W' : World} {q : Nat} {c : Array Value}, AllM w W kx hx (.slice ka na kc) (.slice ha nh hc) (.slice ka na kc) (.slice ha nh hc) (kb A) (kh A) → Upd (Value.slice ka na kc).ownBlock.toList W W' → W.heap[q]? = some (Obj.cells c 77) → W'.heap[q]? = some (Obj.cells c 77) := fun {W W' q c} hW hu hq => hu.heap hq fun hq' => by
              obtain ⟨c', hc'⟩ := hW.ky.tagB (b := q) (by simpa using hq')
              exact tag_ne hc' hq (by decide) rfl
            have hA9 := hA
            have hsr := Lib.hid (srcOf_box (cs := [.int .u8 y.1.toNat]) gk.out (bcel_one y.1) rfl)
            have hln : Hid ((kb A).length + 1 ≤ maxLen) := Lib.hid (by have := hkA.out; unfold maxLen; omega)
            have hbz : Hid (((kb A).length + 1) * 1 ≤ 140737488355328) := Lib.hid (by have := hkA.out; omega)
            refine step_append_row (f := bcel) (M := [y.1]) _ rfl (.tmp 24) (.tmp 26) 98 rfl w.heap.size 5 ib (.int .u8 0) 1 1 Tryz.underlying98 hib.out hzb.out hsb.out hyb.out rfl (by decide) (.slice ka na kc) (kb A) (by simp [Act.eval]) hA.out.ky (.slice (some ⟨bk, 0, none⟩) 1 1) (by simp [Act.eval]) hsr.out hln.out hbz.out hA.out.bel.size ?_
            intro a2 c2 Wd2 hrow hu _
            replace hA := Lib.hid (hA.out.turnA hu hrow)
            replace hbx := Lib.hid (keepA hA9.out hu hbx.out)
            clear hA9 keepA hsr hln hbz gk hrow hu
            have hS1 := And.intro hA.out.cells.1 (And.intro hA.out.cells.2.1 (box2 hbx.out))
            refine hK.out _ _ (fun _ _ => hS1) ?_
            clear hHeld hK K
            have hHeld := hS1
            clear hS1
            try simp only [Act.put, List.setIfInBounds_toArray]
            refine readyM 6 (by kernel_rfl) (by simp only [List.getElem?_toArray, List.getElem?_cons_succ, List.getElem?_cons_zero]; rfl) ?_
            intro K hK
            go_simp
            have hb4 : Below Wd2.heap.size Wd2 (Wd2.alloc (.cells #[.int .i64 y.2.1, .int .u64 y.2.2] 77)) := (Below.refl _ _).alloc (Nat.le_refl _) _
            have gh := Lib.hid (heap_alloc_new Wd2 (.cells #[.int .i64 y.2.1, .int .u64 y.2.2] 77))
            have lh : Hid (∀ q, q ∈ ob ha → q ≠ Wd2.heap.size) := Lib.hid fun q hq => Nat.ne_of_lt (hA.out.kd.lt q (ob_mem.1 hq)).2
            replace hbx := Lib.hid (Below.heap' hb4 hbx.out)
            replace hA := Lib.hid (hA.out.below hb4)
            clear hb4
            generalize Wd2.alloc (.cells #[.int .i64 y.2.1, .int .u64 y.2.2] 77) = Wd3 at *
            generalize Wd2.heap.size = bh at *
            have hS1 := And.intro hA.out.cells.1 (And.intro hA.out.cells.2.1 (box2 hbx.out))
            refine hK.out _ _ (fun _ _ => hS1) ?_
            clear hHeld hK K
            have hHeld := hS1
            clear hS1
            try simp only [Act.put, List.setIfInBounds_toArray, List.set_cons_zero, List.set_cons_succ]
            refine readyM 7 (by kernel_rfl) (by simp only [List.getElem?_toArray, List.getElem?_cons_succ, List.getElem?_cons_zero]; rfl) ?_
            intro K hK
            have hsr := Lib.hid (srcOf_box (cs := [.int .i64 y.2.1, .int .u64 y.2.2]) gh.out (hcel_one y.2) rfl)
            have hln : Hid ((kh A).length + 1 ≤ maxLen) := Lib.hid (by have := hhA.out; unfold maxLen; omega)
            have hbz : Hid (((kh A).length + 1) * 16 ≤ 140737488355328) := Lib.hid (by have := hhA.out; omega)
            refine step_append_row (f := hcel) (M := [y.2]) _ rfl (.tmp 28) (.tmp 30) 42 rfl w.heap.size 77 ih (.agg #[.int .i64 0, .int .u64 0]) 2 16 Tryz.underlying42 hih.out hzh.out hsh.out hyh.out rfl (by decide) (.slice ha nh hc) (kh A) (by simp [Act.eval]) hA.out.kd (.slice (some ⟨bh, 0, none⟩) 1 1) (by simp [Act.eval]) hsr.out hln.out hbz.out hA.out.bel.size ?_
            intro a3 c3 Wd4 hrow hu _
            replace hA := Lib.hid (hA.out.turnH hu hrow)
            replace hbx := Lib.hid (hu.heap hbx.out fun hq => hnx.out xb (by rw [ob_own] at hq; exact hq) rfl)
            clear hsr hln hbz gh hrow hu
            have hS1 := And.intro hA.out.cells.1 (And.intro hA.out.cells.2.1 (box2 hbx.out))
            refine hK.out _ _ (fun _ _ => hS1) ?_
            clear hHeld hK K
            have hHeld := hS1
            clear hS1
            try simp only [Act.put, List.setIfInBounds_toArray, List.set_cons_zero, List.set_cons_succ]
            obtain ⟨c0, c1, q0, q1, f0, f1, qn⟩ := hA.out.cells
            refine readyM 8 (by kernel_rfl) (by simp only [List.getElem?_toArray, List.getElem?_cons_succ, List.getElem?_cons_zero]; rfl) ?_
            intro K hK
            go_simp
            go_wp2_with fail
            refine hK.out _ _ (fun h => by cases h) ?_
            clear hK K
            try simp only [Act.put, List.setIfInBounds_toArray, List.set_cons_zero, List.set_cons_succ]
            refine readyM 9 (by kernel_rfl) (by simp only [List.getElem?_toArray, List.getElem?_cons_succ, List.getElem?_cons_zero]; rfl) ?_
            intro K hK
            go_simp
            go_wp2_with fail
            refine hK.out _ _ (fun h => by cases h) ?_
            clear hK K
            try simp only [Act.put, List.setIfInBounds_toArray, List.set_cons_zero, List.set_cons_succ]
            refine wpAnyM_done (by kernel_rfl) ?_ _
            try simp only [Exit.then]
            go_wp2_with fail
            go_meet
            have hfi := hA.out.fin
            rw [show kb A ++ [y.1] = kb (A ++ [y]) by simp [kb], show kh A ++ [y.2] = kh (A ++ [y]) by simp [kh], show (kb A).length + [y.1].length = A.length + 1 by simp, show (kh A).length + [y.2].length = A.length + 1 by simp] at hfi
            exact ⟨_, _, _, _, _, _, hfi.1, hfi.2.heap hbx.out (by simp; exact ⟨tag_ne hbx.out hA.out.bk (by decide), tag_ne hbx.out hA.out.bh (by decide)⟩)⟩
          · go_simp
            have hb4 : Below Wd1.heap.size Wd1 (Wd1.alloc (.cells #[.int .i64 y.2.1, .int .u64 y.2.2] 77)) := (Below.refl _ _).alloc (Nat.le_refl _) _
            have gh := Lib.hid (heap_alloc_new Wd1 (.cells #[.int .i64 y.2.1, .int .u64 y.2.2] 77))
            replace gk := Lib.hid (Below.heap' hb4 gk.out)
            have lh : Hid (∀ q, q ∈ ob ha → q ≠ Wd1.heap.size) := Lib.hid fun q hq => Nat.ne_of_lt (hA.out.kd.lt q (ob_mem.1 hq)).2
            replace hbx := Lib.hid (Below.heap' hb4 hbx.out)
            replace hA := Lib.hid (hA.out.below hb4)
            clear hb4
            generalize Wd1.alloc (.cells #[.int .i64 y.2.1, .int .u64 y.2.2] 77) = Wd5 at *
            generalize Wd1.heap.size = bh at *
            have hS1 := And.intro hA.out.cells.1 (And.intro hA.out.cells.2.1 (box2 hbx.out))
            refine hK.out _ _ (fun _ _ => hS1) ?_
            clear hHeld hK K
            have hHeld := hS1
            clear hS1
            try simp only [Act.put, List.setIfInBounds_toArray, List.set_cons_zero, List.set_cons_succ]
            refine readyM 3 (by kernel_rfl) (by simp only [List.getElem?_toArray, List.getElem?_cons_succ, List.getElem?_cons_zero]; rfl) ?_
            intro K hK
            have keepA : ∀ {W W' : World} {q : Nat} {c : Array Value}, AllM w W kx hx (.slice ka na kc) (.slice ha nh hc) (.slice ka na kc) (.slice ha nh hc) (kb A) (kh A) → Upd (Value.slice ka na kc).ownBlock.toList W W' → W.heap[q]? = some (Obj.cells c 77) → W'.heap[q]? = some (Obj.cells c 77) := fun {W W' q c} hW hu hq => hu.heap hq fun hq' => by
              obtain ⟨c', hc'⟩ := hW.ky.tagB (b := q) (by simpa using hq')
              exact tag_ne hc' hq (by decide) rfl
            have hA9 := hA
            have hsr := Lib.hid (srcOf_box (cs := [.int .u8 y.1.toNat]) gk.out (bcel_one y.1) rfl)
            have hln : Hid ((kb A).length + 1 ≤ maxLen) := Lib.hid (by have := hkA.out; unfold maxLen; omega)
            have hbz : Hid (((kb A).length + 1) * 1 ≤ 140737488355328) := Lib.hid (by have := hkA.out; omega)
            refine step_append_row (f := bcel) (M := [y.1]) _ rfl (.tmp 24) (.tmp 26) 98 rfl w.heap.size 5 ib (.int .u8 0) 1 1 Tryz.underlying98 hib.out hzb.out hsb.out hyb.out rfl (by decide) (.slice ka na kc) (kb A) (by simp [Act.eval]) hA.out.ky (.slice (some ⟨bk, 0, none⟩) 1 1) (by simp [Act.eval]) hsr.out hln.out hbz.out hA.out.bel.size ?_
            intro a2 c2 Wd6 hrow hu _
            replace hA := Lib.hid (hA.out.turnA hu hrow)
            replace gh := Lib.hid (keepA hA9.out hu gh.out)
            replace hbx := Lib.hid (keepA hA9.out hu hbx.out)
            clear hA9 keepA hsr hln hbz gk hrow hu
            have hS1 := And.intro hA.out.cells.1 (And.intro hA.out.cells.2.1 (box2 hbx.out))
            refine hK.out _ _ (fun _ _ => hS1) ?_
            clear hHeld hK K
            have hHeld := hS1
            clear hS1
            try simp only [Act.put, List.setIfInBounds_toArray, List.set_cons_zero, List.set_cons_succ]
            refine readyM 7 (by kernel_rfl) (by simp only [List.getElem?_toArray, List.getElem?_cons_succ, List.getElem?_cons_zero]; rfl) ?_
            intro K hK
            have hsr := Lib.hid (srcOf_box (cs := [.int .i64 y.2.1, .int .u64 y.2.2]) gh.out (hcel_one y.2) rfl)
            have hln : Hid ((kh A).length + 1 ≤ maxLen) := Lib.hid (by have := hhA.out; unfold maxLen; omega)
            have hbz : Hid (((kh A).length + 1) * 16 ≤ 140737488355328) := Lib.hid (by have := hhA.out; omega)
            refine step_append_row (f := hcel) (M := [y.2]) _ rfl (.tmp 28) (.tmp 30) 42 rfl w.heap.size 77 ih (.agg #[.int .i64 0, .int .u64 0]) 2 16 Tryz.underlying42 hih.out hzh.out hsh.out hyh.out rfl (by decide) (.slice ha nh hc) (kh A) (by simp [Act.eval]) hA.out.kd (.slice (some ⟨bh, 0, none⟩) 1 1) (by simp [Act.eval]) hsr.out hln.out hbz.out hA.out.bel.size ?_
            intro a3 c3 Wd7 hrow hu _
            replace hA := Lib.hid (hA.out.turnH hu hrow)
            replace hbx := Lib.hid (hu.heap hbx.out fun hq => hnx.out xb (by rw [ob_own] at hq; exact hq) rfl)
            clear hsr hln hbz gh hrow hu
            have hS1 := And.intro hA.out.cells.1 (And.intro hA.out.cells.2.1 (box2 hbx.out))
            refine hK.out _ _ (fun _ _ => hS1) ?_
            clear hHeld hK K
            have hHeld := hS1
            clear hS1
            try simp only [Act.put, List.setIfInBounds_toArray, List.set_cons_zero, List.set_cons_succ]
            obtain ⟨c0, c1, q0, q1, f0, f1, qn⟩ := hA.out.cells
            refine readyM 8 (by kernel_rfl) (by simp only [List.getElem?_toArray, List.getElem?_cons_succ, List.getElem?_cons_zero]; rfl) ?_
            intro K hK
            go_simp
            go_wp2_with fail
            refine hK.out _ _ (fun h => by cases h) ?_
            clear hK K
            try simp only [Act.put, List.setIfInBounds_toArray, List.set_cons_zero, List.set_cons_succ]
            refine readyM 9 (by kernel_rfl) (by simp only [List.getElem?_toArray, List.getElem?_cons_succ, List.getElem?_cons_zero]; rfl) ?_
            intro K hK
            go_simp
            go_wp2_with fail
            refine hK.out _ _ (fun h => by cases h) ?_
            clear hK K
            try simp only [Act.put, List.setIfInBounds_toArray, List.set_cons_zero, List.set_cons_succ]
            refine wpAnyM_done (by kernel_rfl) ?_ _
            try simp only [Exit.then]
            go_wp2_with fail
            go_meet
            have hfi := hA.out.fin
            rw [show kb A ++ [y.1] = kb (A ++ [y]) by simp [kb], show kh A ++ [y.2] = kh (A ++ [y]) by simp [kh], show (kb A).length + [y.1].length = A.length + 1 by simp, show (kh A).length + [y.2].length = A.length + 1 by simp] at hfi
            exact ⟨_, _, _, _, _, _, hfi.1, hfi.2.heap hbx.out (by simp; exact ⟨tag_ne hbx.out hA.out.bk (by decide), tag_ne hbx.out hA.out.bh (by decide)⟩)⟩
        · go_simp
          have hb4 : Below Wc.heap.size Wc (Wc.alloc (.cells #[.int .i64 y.2.1, .int .u64 y.2.2] 77)) := (Below.refl _ _).alloc (Nat.le_refl _) _
          have gh := Lib.hid (heap_alloc_new Wc (.cells #[.int .i64 y.2.1, .int .u64 y.2.2] 77))
          have lh : Hid (∀ q, q ∈ ob ha → q ≠ Wc.heap.size) := Lib.hid fun q hq => Nat.ne_of_lt (hA.out.kd.lt q (ob_mem.1 hq)).2
          replace hbx := Lib.hid (Below.heap' hb4 hbx.out)
          replace hA := Lib.hid (hA.out.below hb4)
          clear hb4
          generalize Wc.alloc (.cells #[.int .i64 y.2.1, .int .u64 y.2.2] 77) = Wd8 at *
          generalize Wc.heap.size = bh at *
          have hS1 := And.intro hA.out.cells.1 (And.intro hA.out.cells.2.1 (box2 hbx.out))
          refine hK.out _ _ (fun _ _ => hS1) ?_
          clear hHeld hK K
          have hHeld := hS1
          clear hS1
          try simp only [Act.put, List.setIfInBounds_toArray, List.set_cons_zero, List.set_cons_succ]
          refine readyM 2 (by kernel_rfl) (by simp only [List.getElem?_toArray, List.getElem?_cons_succ, List.getElem?_cons_zero]; rfl) ?_
          intro K hK
          go_simp
          have hb4 : Below Wd8.heap.size Wd8 (Wd8.alloc (.cells #[.int .u8 y.1.toNat] 5)) := (Below.refl _ _).alloc (Nat.le_refl _) _
          have gk := Lib.hid (heap_alloc_new Wd8 (.cells #[.int .u8 y.1.toNat] 5))
          replace gh := Lib.hid (Below.heap' hb4 gh.out)
          replace hbx := Lib.hid (Below.heap' hb4 hbx.out)
          replace hA := Lib.hid (hA.out.below hb4)
          clear hb4
          generalize Wd8.alloc (.cells #[.int .u8 y.1.toNat] 5) = Wd9 at *
          generalize Wd8.heap.size = bk at *
          have hS1 := And.intro hA.out.cells.1 (And.intro hA.out.cells.2.1 (box2 hbx.out))
          refine hK.out _ _ (fun _ _ => hS1) ?_
          clear hHeld hK K
          have hHeld := hS1
          clear hS1
          try simp only [Act.put, List.setIfInBounds_toArray, List.set_cons_zero, List.set_cons_succ]
          refine readyM 3 (by kernel_rfl) (by simp only [List.getElem?_toArray, List.getElem?_cons_succ, List.getElem?_cons_zero]; rfl) ?_
          intro K hK
          have keepA : ∀ {W W' : World} {q : Nat} {c : Array Value}, AllM w W kx hx (.slice ka na kc) (.slice ha nh hc) (.slice ka na kc) (.slice ha nh hc) (kb A) (kh A) → Upd (Value.slice ka na kc).ownBlock.toList W W' → W.heap[q]? = some (Obj.cells c 77) → W'.heap[q]? = some (Obj.cells c 77) := fun {W W' q c} hW hu hq => hu.heap hq fun hq' => by
            obtain ⟨c', hc'⟩ := hW.ky.tagB (b := q) (by simpa using hq')
            exact tag_ne hc' hq (by decide) rfl
          have hA9 := hA
          have hsr := Lib.hid (srcOf_box (cs := [.int .u8 y.1.toNat]) gk.out (bcel_one y.1) rfl)
          have hln : Hid ((kb A).length + 1 ≤ maxLen) := Lib.hid (by have := hkA.out; unfold maxLen; omega)
          have hbz : Hid (((kb A).length + 1) * 1 ≤ 140737488355328) := Lib.hid (by have := hkA.out; omega)
          refine step_append_row (f := bcel) (M := [y.1]) _ rfl (.tmp 24) (.tmp 26) 98 rfl w.heap.size 5 ib (.int .u8 0) 1 1 Tryz.underlying98 hib.out hzb.out hsb.out hyb.out rfl (by decide) (.slice ka na kc) (kb A) (by simp [Act.eval]) hA.out.ky (.slice (some ⟨bk, 0, none⟩) 1 1) (by simp [Act.eval]) hsr.out hln.out hbz.out hA.out.bel.size ?_
          intro a2 c2 Wd10 hrow hu _
          replace hA := Lib.hid (hA.out.turnA hu hrow)
          replace gh := Lib.hid (keepA hA9.out hu gh.out)
          replace hbx := Lib.hid (keepA hA9.out hu hbx.out)
          clear hA9 keepA hsr hln hbz gk hrow hu
          have hS1 := And.intro hA.out.cells.1 (And.intro hA.out.cells.2.1 (box2 hbx.out))
          refine hK.out _ _ (fun _ _ => hS1) ?_
          clear hHeld hK K
          have hHeld := hS1
          clear hS1
          try simp only [Act.put, List.setIfInBounds_toArray, List.set_cons_zero, List.set_cons_succ]
          refine readyM 7 (by kernel_rfl) (by simp only [List.getElem?_toArray, List.getElem?_cons_succ, List.getElem?_cons_zero]; rfl) ?_
          intro K hK
          have hsr := Lib.hid (srcOf_box (cs := [.int .i64 y.2.1, .int .u64 y.2.2]) gh.out (hcel_one y.2) rfl)
          have hln : Hid ((kh A).length + 1 ≤ maxLen) := Lib.hid (by have := hhA.out; unfold maxLen; omega)
          have hbz : Hid (((kh A).length + 1) * 16 ≤ 140737488355328) := Lib.hid (by have := hhA.out; omega)
          refine step_append_row (f := hcel) (M := [y.2]) _ rfl (.tmp 28) (.tmp 30) 42 rfl w.heap.size 77 ih (.agg #[.int .i64 0, .int .u64 0]) 2 16 Tryz.underlying42 hih.out hzh.out hsh.out hyh.out rfl (by decide) (.slice ha nh hc) (kh A) (by simp [Act.eval]) hA.out.kd (.slice (some ⟨bh, 0, none⟩) 1 1) (by simp [Act.eval]) hsr.out hln.out hbz.out hA.out.bel.size ?_
          intro a3 c3 Wd11 hrow hu _
          replace hA := Lib.hid (hA.out.turnH hu hrow)
          replace hbx := Lib.hid (hu.heap hbx.out fun hq => hnx.out xb (by rw [ob_own] at hq; exact hq) rfl)
          clear hsr hln hbz gh hrow hu
          have hS1 := And.intro hA.out.cells.1 (And.intro hA.out.cells.2.1 (box2 hbx.out))
          refine hK.out _ _ (fun _ _ => hS1) ?_
          clear hHeld hK K
          have hHeld := hS1
          clear hS1
          try simp only [Act.put, List.setIfInBounds_toArray, List.set_cons_zero, List.set_cons_succ]
          obtain ⟨c0, c1, q0, q1, f0, f1, qn⟩ := hA.out.cells
          refine readyM 8 (by kernel_rfl) (by simp only [List.getElem?_toArray, List.getElem?_cons_succ, List.getElem?_cons_zero]; rfl) ?_
          intro K hK
          go_simp
          go_wp2_with fail
          refine hK.out _ _ (fun h => by cases h) ?_
          clear hK K
          try simp only [Act.put, List.setIfInBounds_toArray, List.set_cons_zero, List.set_cons_succ]
          refine readyM 9 (by kernel_rfl) (by simp only [List.getElem?_toArray, List.getElem?_cons_succ, List.getElem?_cons_zero]; rfl) ?_
          intro K hK
          go_simp
          go_wp2_with fail
          refine hK.out _ _ (fun h => by cases h) ?_
          clear hK K
          try simp only [Act.put, List.setIfInBounds_toArray, List.set_cons_zero, List.set_cons_succ]
          refine wpAnyM_done (by kernel_rfl) ?_ _
          try simp only [Exit.then]
          go_wp2_with fail
          go_meet
          have hfi := hA.out.fin
          rw [show kb A ++ [y.1] = kb (A ++ [y]) by simp [kb], show kh A ++ [y.2] = kh (A ++ [y]) by simp [kh], show (kb A).length + [y.1].length = A.length + 1 by simp, show (kh A).length + [y.2].length = A.length + 1 by simp] at hfi
          exact ⟨_, _, _, _, _, _, hfi.1, hfi.2.heap hbx.out (by simp; exact ⟨tag_ne hbx.out hA.out.bk (by decide), tag_ne hbx.out hA.out.bh (by decide)⟩)⟩
      case rest =>
        obtain ⟨ka, ha, na, kc, nh, hc, hA2, hbx2⟩ := hcut
        obtain ⟨w5, hw5⟩ : ∃ w5, w5 = wc := ⟨_, rfl⟩
        subst hw5
        clear c0 c1 q0 q1 qn z0 z1 zl hA hbx hnx
        obtain ⟨z0, z1⟩ := box2 hbx2
        have zl := heap_lt hbx2
        have hb6 : Below w5.heap.size w5 (w5.alloc (.cells #[.int .i64 y.2.1, .int .u64 y.2.2] 77)) := (Below.refl _ _).alloc (Nat.le_refl _) _
        have hA6 := hA2.below hb6
        have hbx6 := heap_alloc_new w5 (.cells #[.int .i64 y.2.1, .int .u64 y.2.2] 77)
        have hlt5 : Hid (∀ q, q ∈ ob ha → q ≠ w5.heap.size) := Lib.hid fun q hq => Nat.ne_of_lt (hA2.kd.lt q (ob_mem.1 hq)).2
        have hw0 : Hid (w.heap.size ≤ w5.heap.size) := Lib.hid hA2.bel.size
        have hF := hFr.out _ hA6.bel (y.1.toNat + 1) (by omega)
        have hmid := kfrom_mid (A := A) (M := M) (y := y) (by rw [← hL.out]; exact hs.out)
        rw [hL.out, hmid, fromV_head, show ((y.1.toNat + 1 : Nat) : Int) = (y.1.toNat : Int) + 1 from rfl] at hF
        have hw1 : IntKind.i64.wrap ((y.1.toNat : Int) + 1) = (y.1.toNat : Int) + 1 := IntWalk.i64_in _ (by omega)
        replace hF := Lib.hid hF
        replace hA6 := Lib.hid hA6
        replace hbx6 := Lib.hid hbx6
        clear hbx2 hb6 hA2 hmid
        go_upto_region 5 with fail
        generalize w5.alloc (.cells #[.int .i64 y.2.1, .int .u64 y.2.2] 77) = W6 at *
        generalize w5.heap.size = xn at *
        clear z0 z1 zl
        go_wp2_with fail
        refine hF.out.mono ?_
        clear hF
        rintro e w7 ⟨rfl, hb7⟩
        have hA7 := hA6.out.below hb7
        have hbx7 := Below.heap' hb7 hbx6.out
        have hfin := hA7.other (q := xn) hbx7 hw0.out (fun r hr => hlt5.out r (ob_mem.2 hr)) (.int .i64 (hdG M).1) (.int .u64 (hdG M).2)
        obtain ⟨z0, z1⟩ := box2 hbx7
        have f0 := frozen_of_heap hbx7 0
        have f1 := frozen_of_heap hbx7 1
        have zl := heap_lt hbx7
        replace hfin := Lib.hid hfin
        replace hL : Hid (L = (A ++ [y]) ++ M) := Lib.hid (by rw [hL.out]; simp)
        clear hb7 hA7 hbx7 hA6 hbx6
        go_wp2_with fail
        go_roundg M.length
        case rel => exact ⟨A ++ [y], M, xn, ka, ha, na, kc, nh, hc, rfl, hL.out, rfl, rfl, rfl, hfin.out.2, hfin.out.1, hlt5.out⟩
        case measure => simp
end
end Go.Proofs.YtmhlokomlngdmaaGreat
namespace Go.Proofs.YtmhlokomlngdmaaGreat
open Go.RowKit Go.Shelf
attribute [local go_sem] Oper.semAt_some
/-- What a round keeps: the iterator's own blocks. -/
def KpL (B : List Nat) (W W' : World) : Prop := ∀ q, q ∈ B → W'.heap[q]? = W.heap[q]?
theorem KpL.refl (B : List Nat) (W : World) : KpL B W W := fun _ _ => rfl
theorem KpL.trans {B : List Nat} {W W' W'' : World} (h : KpL B W W') (h' : KpL B W' W'') : KpL B W W'' := fun q hq => (h' q hq).trans (h q hq)
theorem KpL.cell {B : List Nat} {W W' : World} (h : KpL B W W') {q i : Nat} {v : Value} (hq : q ∈ B) (hc : W.cell? ⟨q, i, none⟩ = some v) : W'.cell? ⟨q, i, none⟩ = some v := by
  rw [World.cell?_of_block (a := ⟨q, i, none⟩) (h q hq)]
  exact hc
def bkL (kx hx : Nat) (va vh : Value) : List Nat := kx :: hx :: (va.ownBlock.toList ++ vh.ownBlock.toList)
/-- The iterator's reading: its boxes, and the child of each place. -/
theorem AllM.read {w0 w : World} {kx hx : Nat} {va vh : Value} {L : KL} (h : AllM w0 w kx hx va vh va vh (kb L) (kh L)) : ∃ ka kc ha hc, va = .slice ka L.length kc ∧ vh = .slice ha L.length hc ∧ L.length ≤ kc ∧ kc ≤ 9223372036854775807 ∧ L.length ≤ hc ∧ hc ≤ 9223372036854775807 ∧
    ∀ W, KpL (bkL kx hx va vh) w W → (W.cell? ⟨kx, 0, none⟩ = some (.slice ka L.length kc) ∧ W.cell? ⟨hx, 0, none⟩ = some (.slice ha L.length hc)) ∧
      ∀ (k : Nat) (y : UInt8 × Hd), L[k]? = some y → ∃ g g', ka = some ⟨g, 0, none⟩ ∧ ha = some ⟨g', 0, none⟩ ∧ W.cell? ⟨g, k, none⟩ = some (.int .u8 y.1.toNat) ∧ W.cell? ⟨g', k * 2, none⟩ = some (.int .i64 y.2.1) ∧ W.cell? ⟨g', k * 2 + 1, none⟩ = some (.int .u64 y.2.2) := by
  obtain ⟨ka, kc, e1⟩ := h.ky.shape
  obtain ⟨ha, hc, e2⟩ := h.kd.shape
  have l1 : (kb L).length = L.length := List.length_map _
  have l2 : (kh L).length = L.length := List.length_map _
  rw [l1] at e1
  rw [l2] at e2
  subst e1 e2
  have a1 := h.ky
  have a2 := h.kd
  rw [← l1] at a1
  rw [← l2] at a2
  obtain ⟨p1, p2, _⟩ := a1.at'
  obtain ⟨p3, p4, _⟩ := a2.at'
  refine ⟨ka, kc, ha, hc, rfl, rfl, by omega, p2, by omega, p4, fun W hW => ⟨⟨hW.cell (by simp [bkL]) h.cells.1, hW.cell (by simp [bkL]) h.cells.2.1⟩, fun k y hy => ?_⟩⟩
  have hk1 : (kb L)[k]? = some y.1 := by rw [List.getElem?_map, hy]; rfl
  have hk2 : (kh L)[k]? = some y.2 := by rw [List.getElem?_map, hy]; rfl
  obtain ⟨g, c, f1, f2, _, _, _, _, _, f3⟩ := h.ky.at hk1
  obtain ⟨g', c', f4, f5, _, _, _, _, _, f6⟩ := h.kd.at hk2
  injection f1 with f1
  injection f4 with f4
  refine ⟨g, g', f1, f4, ?_, ?_, ?_⟩
  · exact hW.cell (by simp [bkL, f2]) (by simpa using f3 0 _ rfl)
  · exact hW.cell (by simp [bkL, f5]) (f6 0 _ rfl)
  · exact hW.cell (by simp [bkL, f5]) (f6 1 _ rfl)
set_option maxRecDepth 100000 in
set_option maxHeartbeats 2000000 in
theorem anAll1_in (F : Fence) (n : Nat) (h51 : F.fn 67) (hro : F.round = none) (hn : 1 ≤ n) (l : Nat) (J Jx : KL → World → Prop) {w0 W : World} {kx hx : Nat} {va vh : Value} {L : KL} (hA : AllM w0 W kx hx va vh va vh (kb L) (kh L)) (hL : L.length ≤ 1000)
    (hY : ∀ pre x W, J pre W → pre.length < L.length → YieldAt F (n - 1) Tryz.prog l #[.int .u8 x.1.toNat, hV x.2] W fun e W' =>
      (e = .returned (.bool true) ∧ J (pre ++ [x]) W' ∧ KpL (bkL kx hx va vh) W W') ∨ (e = .returned (.bool false) ∧ Jx (pre ++ [x]) W')) (h0 : J [] W) :
    CallsIn F n Tryz.prog 67 #[.func (.yield l) #[] #[], .pointer (some ⟨kx, 0, none⟩), .pointer (some ⟨hx, 0, none⟩)] W fun e W' => (∃ v, e = .returned v) ∧
      ((∃ ys, ys = L ∧ J ys W') ∨ (∃ pre, pre <+: L ∧ Jx pre W')) := by
  obtain ⟨ka, kc, ha, hc, rfl, rfl, g1, g2, g3, g4, hrd⟩ := hA.read
  obtain ⟨⟨c0, _⟩, _⟩ := hrd W (KpL.refl _ _)
  obtain ⟨m, hm⟩ : ∃ m, m = L.length := ⟨_, rfl⟩
  rw [← hm] at hrd c0 g1 g3 hL hY
  replace hm := Lib.hid hm
  replace hrd := Lib.hid hrd
  clear hA
  refine callsIn_of_wp Tryz.func67 rfl h51 ?_ hro
  simp only [Tryz.ntmps67, List.size_toArray, List.length_cons, List.length_nil, Nat.reduceAdd, Nat.reduceSub, Array.replicate_succ, Array.replicate_zero, List.push_toArray, List.append_toArray, List.nil_append, List.cons_append]
  gi_wp2
  gi_loopw [8] (fun i wr => ∃ k : Nat, k ≤ m ∧ i = .int .i64 k ∧ J (L.take k) wr ∧ KpL (bkL kx hx (.slice ka m kc) (.slice ha m hc)) W wr)
    (fun i _ => m - (intOf i).toNat)
  case atStart => exact ⟨0, Nat.zero_le _, rfl, h0, KpL.refl _ _⟩
  case round =>
    obtain ⟨k, hk, rfl, hJs, hKp⟩ := hrel
    by_cases hlt : k < m
    · obtain ⟨y, hy⟩ : ∃ y, L[k]? = some y := ⟨_, List.getElem?_eq_getElem (by have := hm.out; omega)⟩
      obtain ⟨⟨_, c1⟩, hcs⟩ := hrd.out wr hKp
      obtain ⟨g, g', rfl, rfl, x0, y0, y1⟩ := hcs k y hy
      have ht : L.take (k + 1) = L.take k ++ [y] := by
        obtain ⟨h1, h2⟩ := List.getElem?_eq_some_iff.1 hy
        rw [List.take_succ_eq_append_getElem h1, h2]
      obtain ⟨fn, tmps, assign, body, hyy, hR⟩ := hY (L.take k) y wr hJs (by rw [List.length_take]; have := hm.out; omega)
      have hA2 : (k : Int) < (m : Int) := by omega
      have hA3 : (0 : Int) ≤ (k : Int) := by omega
      have hw1 : IntKind.i64.wrap ((k : Int) + 1) = (k : Int) + 1 := IntWalk.i64_in _ (by omega)
      replace ht := Lib.hid ht
      clear hcs
      have hpre : Hid (L.take k ++ [y] <+: L) := Lib.hid (by rw [← ht.out]; exact List.take_prefix _ _)
      gi_wp2
      refine hR.mono ?_
      rintro e W3 (⟨rfl, hJ3, hk3⟩ | ⟨rfl, hJx3⟩)
      · gi_wp2
        go_roundw
        case rel => exact ⟨k + 1, by omega, by go_num, by rw [ht.out]; exact hJ3, hKp.trans hk3⟩
        case measure => simp [intOf]; omega
      · gi_wp2
        refine bodyPost_ret (results_none rfl _ _ _) rfl ?_
        exact ⟨⟨_, rfl⟩, .inr ⟨_, hpre.out, hJx3⟩⟩
    · obtain rfl : k = m := by omega
      have ht : L.take k = L := List.take_of_length_le (by have := hm.out; omega)
      rw [ht] at hJs
      gi_wp2
      go_end0
      exact ⟨⟨_, rfl⟩, .inl ⟨_, rfl, hJs⟩⟩
/-- All's value is an iterator over the children, in order. -/
theorem anAll1_stops (F : Fence) (n : Nat) (h51 : F.fn 67) (hro : F.round = none) (hn : 1 ≤ n) {w0 w : World} {kx hx : Nat} {va vh : Value} {L : KL} (hA : AllM w0 w kx hx va vh va vh (kb L) (kh L)) (hL : L.length ≤ 1000) :
    SeqStopsK F n Tryz.prog 67 #[.pointer (some ⟨kx, 0, none⟩), .pointer (some ⟨hx, 0, none⟩)] (fun y : UInt8 × Hd => #[.int .u8 y.1.toNat, hV y.2]) (KpL (bkL kx hx va vh)) (fun ys => ys = L) (fun pre => pre <+: L) L.length w := fun l J Jx _ hW _ _ hY h0 =>
  anAll1_in F n h51 hro hn l J Jx (hA.below hW) hL hY h0
end Go.Proofs.YtmhlokomlngdmaaGreat
namespace Go.Proofs.YtmhlokomlngdmaaGreat
open Go.RowKit Go.Shelf
attribute [local go_sem] Oper.semAt_some
set_option maxRecDepth 100000 in
set_option maxHeartbeats 2000000 in
theorem anAll1_inM (F : Fence) (n : Nat) (h51 : F.fn 67) (hro : F.round = none) (hn : 1 ≤ n) (l : Nat) (J Jx : KL → World → Prop) {w0 W : World} {kx hx : Nat} {va vh : Value} {L : KL} (hA : AllM w0 W kx hx va vh va vh (kb L) (kh L)) (hL : L.length ≤ 1000)
    (hY : ∀ pre x W, J pre W → pre.length < L.length → x ∈ L → YieldAt F (n - 1) Tryz.prog l #[.int .u8 x.1.toNat, hV x.2] W fun e W' =>
      (e = .returned (.bool true) ∧ J (pre ++ [x]) W' ∧ KpL (bkL kx hx va vh) W W') ∨ (e = .returned (.bool false) ∧ Jx (pre ++ [x]) W')) (h0 : J [] W) :
    CallsIn F n Tryz.prog 67 #[.func (.yield l) #[] #[], .pointer (some ⟨kx, 0, none⟩), .pointer (some ⟨hx, 0, none⟩)] W fun e W' => (∃ v, e = .returned v) ∧
      ((∃ ys, ys = L ∧ J ys W') ∨ (∃ pre, pre <+: L ∧ Jx pre W')) := by
  obtain ⟨ka, kc, ha, hc, rfl, rfl, g1, g2, g3, g4, hrd⟩ := hA.read
  obtain ⟨⟨c0, _⟩, _⟩ := hrd W (KpL.refl _ _)
  obtain ⟨m, hm⟩ : ∃ m, m = L.length := ⟨_, rfl⟩
  rw [← hm] at hrd c0 g1 g3 hL hY
  replace hm := Lib.hid hm
  replace hrd := Lib.hid hrd
  clear hA
  refine callsIn_of_wp Tryz.func67 rfl h51 ?_ hro
  simp only [Tryz.ntmps67, List.size_toArray, List.length_cons, List.length_nil, Nat.reduceAdd, Nat.reduceSub, Array.replicate_succ, Array.replicate_zero, List.push_toArray, List.append_toArray, List.nil_append, List.cons_append]
  gi_wp2
  gi_loopw [8] (fun i wr => ∃ k : Nat, k ≤ m ∧ i = .int .i64 k ∧ J (L.take k) wr ∧ KpL (bkL kx hx (.slice ka m kc) (.slice ha m hc)) W wr)
    (fun i _ => m - (intOf i).toNat)
  case atStart => exact ⟨0, Nat.zero_le _, rfl, h0, KpL.refl _ _⟩
  case round =>
    obtain ⟨k, hk, rfl, hJs, hKp⟩ := hrel
    by_cases hlt : k < m
    · obtain ⟨y, hy⟩ : ∃ y, L[k]? = some y := ⟨_, List.getElem?_eq_getElem (by have := hm.out; omega)⟩
      obtain ⟨⟨_, c1⟩, hcs⟩ := hrd.out wr hKp
      obtain ⟨g, g', rfl, rfl, x0, y0, y1⟩ := hcs k y hy
      have ht : L.take (k + 1) = L.take k ++ [y] := by
        obtain ⟨h1, h2⟩ := List.getElem?_eq_some_iff.1 hy
        rw [List.take_succ_eq_append_getElem h1, h2]
      obtain ⟨fn, tmps, assign, body, hyy, hR⟩ := hY (L.take k) y wr hJs (by rw [List.length_take]; have := hm.out; omega) (List.mem_of_getElem? hy)
      have hA2 : (k : Int) < (m : Int) := by omega
      have hA3 : (0 : Int) ≤ (k : Int) := by omega
      have hw1 : IntKind.i64.wrap ((k : Int) + 1) = (k : Int) + 1 := IntWalk.i64_in _ (by omega)
      replace ht := Lib.hid ht
      clear hcs
      have hpre : Hid (L.take k ++ [y] <+: L) := Lib.hid (by rw [← ht.out]; exact List.take_prefix _ _)
      gi_wp2
      refine hR.mono ?_
      rintro e W3 (⟨rfl, hJ3, hk3⟩ | ⟨rfl, hJx3⟩)
      · gi_wp2
        go_roundw
        case rel => exact ⟨k + 1, by omega, by go_num, by rw [ht.out]; exact hJ3, hKp.trans hk3⟩
        case measure => simp [intOf]; omega
      · gi_wp2
        refine bodyPost_ret (results_none rfl _ _ _) rfl ?_
        exact ⟨⟨_, rfl⟩, .inr ⟨_, hpre.out, hJx3⟩⟩
    · obtain rfl : k = m := by omega
      have ht : L.take k = L := List.take_of_length_le (by have := hm.out; omega)
      rw [ht] at hJs
      gi_wp2
      go_end0
      exact ⟨⟨_, rfl⟩, .inl ⟨_, rfl, hJs⟩⟩
theorem list_sub {α : Type} {L : List α} : ∀ {ys : List α}, (∀ y, y ∈ ys → y ∈ L) → ∃ zs : List { y // y ∈ L }, zs.map (·.1) = ys
  | [], _ => ⟨[], rfl⟩
  | y :: ys, h => by
    obtain ⟨zs, hz⟩ := list_sub (L := L) (ys := ys) fun z hz => h z (List.mem_cons_of_mem _ hz)
    exact ⟨⟨y, h y (by simp)⟩ :: zs, by simp [hz]⟩
theorem anAll1_stopsM (F : Fence) (n : Nat) (h51 : F.fn 67) (hro : F.round = none) (hn : 1 ≤ n) {w0 w : World} {kx hx : Nat} {va vh : Value} {L : KL} (hA : AllM w0 w kx hx va vh va vh (kb L) (kh L)) (hL : L.length ≤ 1000) :
    SeqStopsK F n Tryz.prog 67 #[.pointer (some ⟨kx, 0, none⟩), .pointer (some ⟨hx, 0, none⟩)] (fun y : { y : UInt8 × Hd // y ∈ L } => #[.int .u8 y.1.1.toNat, hV y.1.2]) (KpL (bkL kx hx va vh)) (fun ys => ys.map (·.1) = L) (fun pre => pre.map (·.1) <+: L) L.length w := fun l J Jx _ hW _ _ hY h0 =>
  (anAll1_inM F n h51 hro hn l (fun pre W => ∃ p : List { y // y ∈ L }, p.map (·.1) = pre ∧ J p W) (fun pre W => ∃ p : List { y // y ∈ L }, p.map (·.1) = pre ∧ Jx p W) (hA.below hW) hL (fun pre x W hJ hl hx => by
    obtain ⟨p, rfl, hJ⟩ := hJ
    obtain ⟨fn, tmps, assign, body, hyy, hR⟩ := hY p ⟨x, hx⟩ W hJ (by simpa using hl)
    refine ⟨fn, tmps, assign, body, hyy, hR.mono ?_⟩
    rintro e W' (⟨a, b, c⟩ | ⟨a, b⟩)
    · exact .inl ⟨a, ⟨_, by simp, b⟩, c⟩
    · exact .inr ⟨a, _, by simp, b⟩) ⟨[], rfl, h0⟩).mono fun e W' h => by
    obtain ⟨hv, ⟨ys, rfl, p, hp, hJ⟩ | ⟨pre, hpre, p, hp, hJ⟩⟩ := h
    · exact ⟨hv, .inl ⟨p, hp, hJ⟩⟩
    · exact ⟨hv, .inr ⟨p, by show p.map (·.1) <+: L; rw [hp]; exact hpre, hJ⟩⟩
end Go.Proofs.YtmhlokomlngdmaaGreat
