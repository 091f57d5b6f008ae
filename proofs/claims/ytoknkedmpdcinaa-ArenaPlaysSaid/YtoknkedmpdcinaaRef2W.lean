/- The document's pool of layer 2: Alloc, Release, Handles, NewPool. -/
import Derived.Test.YtoknkedmpdcinaaRef2
namespace Go.Proofs.Ytoknkedmpdcinaa
open Go.RowKit
structure RfQ (w : World) (b : Nat) (a : Option Addr) (c : Nat) (SL : List Sl) : Prop where
  blk : w.heap[b]? = some (.cells #[.slice a SL.length c] 77)
  row : Row 0 110 3 slCell w (.slice a SL.length c) SL
theorem RfQ.rf {w : World} {b : Nat} {a : Option Addr} {c : Nat} {SL : List Sl} (h : RfQ w b a c SL) : Rf w (some b) SL := ⟨a, c, h.blk, h.row⟩
theorem RfQ.ne {w : World} {b : Nat} {a : Option Addr} {c : Nat} {SL : List Sl} (h : RfQ w b a c SL) : ∀ q, (Value.slice a SL.length c).ownBlock = some q → q ≠ b := by
  intro q hq hh
  subst hh
  rcases h.row.2.2.2 with ⟨h0, _⟩ | ⟨g, cap, cur, h0, _, h4, _⟩
  · rw [h0] at hq; cases hq
  · rw [h0] at hq
    simp [Value.ownBlock] at hq
    subst hq
    have := h.blk
    rw [h4] at this
    injection this with this
    injection this with _ this
    cases this
theorem RfQ.upd {S : List Nat} {w w' : World} {b : Nat} {a : Option Addr} {c : Nat} {SL : List Sl} (h : RfQ w b a c SL) (hu : Upd S w w') (hb : b ∉ S) (hq : ∀ q, (Value.slice a SL.length c).ownBlock = some q → q ∉ S) : RfQ w' b a c SL := ⟨hu.heap h.blk hb, h.row.upd hu hq⟩
/-- Cells of a slot are written. -/
theorem RfQ.set {w : World} {b : Nat} {a : Option Addr} {c : Nat} {SL : List Sl} {i : Nat} {s y : Sl} {j : Nat} {u : Value} (h : RfQ w b a c SL) (hs : SL[i]? = some s) (hj : j < 3) (hy : slCell y = (slCell s).set j u) :
    ∃ q, a = some ⟨q, 0, none⟩ ∧ w.frozen? ⟨q, i * 3 + j, none⟩ = false ∧ q < w.heap.size ∧ RfQ (w.setCell ⟨q, i * 3 + j, none⟩ u) b a c (SL.set i y) ∧ Upd [q] w (w.setCell ⟨q, i * 3 + j, none⟩ u) := by
  obtain ⟨q, c', hv, hq, hc, hf, hrow⟩ := h.row.setCell (y := y) (u := u) hs hj hy
  injection hv with h1 h2 h3
  subst h1 h3
  have hu : Upd [q] w (w.setCell ⟨q, i * 3 + j, none⟩ u) := (Upd.refl _ _).setCell (p := ⟨q, i * 3 + j, none⟩) (by simp) _
  have hb : b ∉ [q] := fun hh => by simp at hh; exact h.ne q hq hh.symm
  refine ⟨q, rfl, hf, (h.row.lt q hq).2, ⟨?_, ?_⟩, hu⟩
  · rw [List.length_set]; exact hu.heap h.blk hb
  · rw [List.length_set]; exact hrow
def A2End (b : Nat) (a : Option Addr) (c : Nat) (SL : List Sl) (k : Nat) (x : ByteArray) (w : World) (e : Ending) (w' : World) : Prop :=
  ∃ s, SL[(freeOf SL).idxOf true]? = some s ∧ e = .returned (.tuple #[.agg #[.int .i64 ((freeOf SL).idxOf true : Nat), .int .u64 s.gen], .int .i64 0]) ∧ RfQ w' b a c (SL.set ((freeOf SL).idxOf true) ⟨s.gen, k, x⟩) ∧ Upd (Value.slice a SL.length c).ownBlock.toList w w'
theorem idx_first : ∀ {SL : List Sl} {i : Nat} {s : Sl}, SL[i]? = some s → s.who = 0 → (∀ (j : Nat) t, j < i → SL[j]? = some t → t.who ≠ 0) → (freeOf SL).idxOf true = i
  | [], _, _, h, _, _ => by simp at h
  | a :: l, 0, s, h, h0, _ => by
    simp at h
    subst h
    simp [freeOf, h0]
  | a :: l, i + 1, s, h, h0, hno => by
    have h1 : (a.who == 0) = false := by simpa using hno 0 a (by omega) rfl
    have h2 := idx_first (SL := l) (i := i) (by simpa using h) h0 (fun j t hj ht => hno (j + 1) t (by omega) (by simpa using ht))
    unfold freeOf at h2 ⊢
    rw [List.map_cons, List.idxOf_cons, h1, h2]
    rfl
theorem free_none {SL : List Sl} (h : true ∉ freeOf SL) {i : Nat} {s : Sl} (hs : SL[i]? = some s) : ¬ s.who = 0 := fun h0 => h (List.mem_map.2 ⟨s, List.mem_of_getElem? hs, by simp [h0]⟩)
theorem free_first {SL : List Sl} (h : true ∈ freeOf SL) : ∃ s, SL[(freeOf SL).idxOf true]? = some s ∧ s.who = 0 ∧ ∀ (j : Nat) t, j < (freeOf SL).idxOf true → SL[j]? = some t → t.who ≠ 0 := by
  induction SL with
  | nil => simp [freeOf] at h
  | cons a l ih =>
    by_cases ha : a.who = 0
    · exact ⟨a, by simp [freeOf, ha], ha, fun j t hj => by simp [freeOf, ha] at hj⟩
    · have h1 : (a.who == 0) = false := by simpa using ha
      have h2 : true ∈ freeOf l := by
        unfold freeOf at h ⊢
        rw [List.map_cons, h1] at h
        simpa using h
      obtain ⟨s, h3, h4, h5⟩ := ih h2
      have h6 : (freeOf (a :: l)).idxOf true = (freeOf l).idxOf true + 1 := by
        unfold freeOf
        rw [List.map_cons, List.idxOf_cons, h1]
        rfl
      rw [h6]
      refine ⟨s, by simpa using h3, h4, fun j t hj ht => ?_⟩
      rcases j with _ | j
      · simp at ht; subst ht; exact ha
      · exact h5 j t (by omega) (by simpa using ht)
set_option maxRecDepth 100000 in
set_option maxHeartbeats 2000000 in
theorem r2Alloc_full (b : Option Nat) (SL : List Sl) (k : Int) (x : ByteArray) (w : World) (h : Rf w b SL) (hl : SL.length ≤ 5000) (hn : true ∉ freeOf SL) :
    Calls Try.prog 44 #[rptr b, .int .i64 k, .string x] w fun e w' => e = .returned (.tuple #[.agg #[.int .i64 0, .int .u64 0], .int .i64 5]) ∧ Below w.heap.size w w' := by
  cases b with
  | none =>
    have : SL = [] := h
    subst this
    unfold rptr
    go_enter Try.func44, Try.ntmps44
    go_wp2_with fail
    go_loopg [8] 0 (fun gk iv wr => iv = .int .i64 0 ∧ wr = w.alloc (.cells #[.int .i64 0, .int .u64 0] 40))
    case atStart => exact ⟨rfl, rfl⟩
    case round =>
      obtain ⟨rfl, rfl⟩ := hrel
      go_wp2_with fail
      exact bodyPost_ret (v := .tuple #[.agg #[.int .i64 0, .int .u64 0], .int .i64 5]) (by simp [results, Try.results44, go_sem]) rfl ⟨rfl, (Below.refl _ _).alloc (Nat.le_refl _) _⟩
  | some b =>
    obtain ⟨a, c, d0, hbl⟩ := h.len
    replace h := Lib.hid h
    show Calls _ _ #[.pointer (some ⟨b, 0, none⟩), _, _] _ _
    go_enter Try.func44, Try.ntmps44
    go_wp2_with fail
    go_loopg [8] SL.length (fun gk iv wr => ∃ i : Nat, gk = SL.length - i ∧ i ≤ SL.length ∧ iv = .int .i64 i ∧ wr = w.alloc (.cells #[.int .i64 0, .int .u64 0] 40))
    case atStart => exact ⟨0, rfl, Nat.zero_le _, rfl, rfl⟩
    case round =>
      obtain ⟨i, rfl, hi, rfl, rfl⟩ := hrel
      by_cases hlt : i < SL.length
      · obtain ⟨s, hs⟩ : ∃ s, SL[i]? = some s := ⟨_, List.getElem?_eq_getElem hlt⟩
        obtain ⟨q, c', d1, _, hq, _, g0, g1, g2⟩ := h.out.at hs
        rw [d0] at d1
        injection d1 with d1
        injection d1 with d1 _ d2
        subst d1 d2
        have hw0 := free_none hn hs
        have hw1 : ((s.who : Int) == 0) = false := by simp; omega
        replace hs := Lib.hid hs
        clear hw0
        go_wp2_with fail
        go_roundg (SL.length - (i + 1))
        case measure => omega
        case rel => exact ⟨i + 1, rfl, by omega, by go_num, rfl⟩
      · obtain rfl : i = SL.length := by omega
        go_wp2_with fail
        exact bodyPost_ret (v := .tuple #[.agg #[.int .i64 0, .int .u64 0], .int .i64 5]) (by simp [results, Try.results44, go_sem]) rfl ⟨rfl, (Below.refl _ _).alloc (Nat.le_refl _) _⟩
set_option maxRecDepth 100000 in
set_option maxHeartbeats 2000000 in
theorem r2Alloc_some (b : Nat) (a : Option Addr) (c : Nat) (SL : List Sl) (k : Nat) (x : ByteArray) (w : World) (h : RfQ w b a c SL) (hl : SL.length ≤ 5000) (hn : true ∈ freeOf SL) :
    Calls Try.prog 44 #[.pointer (some ⟨b, 0, none⟩), .int .i64 k, .string x] w (A2End b a c SL k x w) := by
  obtain ⟨s0, hs0, h00, hno⟩ := free_first hn
  have hA : A2End b a c SL k x w = fun e w' => ∃ s, SL[(freeOf SL).idxOf true]? = some s ∧ e = .returned (.tuple #[.agg #[.int .i64 ((freeOf SL).idxOf true : Nat), .int .u64 s.gen], .int .i64 0]) ∧ RfQ w' b a c (SL.set ((freeOf SL).idxOf true) ⟨s.gen, k, x⟩) ∧ Upd (Value.slice a SL.length c).ownBlock.toList w w' := rfl
  rw [hA]
  clear hA
  generalize (freeOf SL).idxOf true = i0 at *
  obtain ⟨a', c', d0, hbl⟩ := h.rf.len
  have hi0 : i0 < SL.length := (List.getElem?_eq_some_iff.1 hs0).1
  have hB1 : Below w.heap.size w (w.alloc (.cells #[.int .i64 0, .int .u64 0] 40)) := (Below.refl _ _).alloc (Nat.le_refl _) _
  have hq1 := h.upd (Upd.of_below (S := []) hB1) (by simp) (by simp)
  obtain ⟨q, ha, hf1, hql, hq2, hu2⟩ := hq1.set (y := ⟨s0.gen, k, s0.x⟩) (j := 1) (u := .int .i64 k) hs0 (by decide) rfl
  obtain ⟨q', ha', hf2, _, hq3, hu3⟩ := hq2.set (i := i0) (s := ⟨s0.gen, k, s0.x⟩) (y := ⟨s0.gen, k, x⟩) (j := 2) (u := .string x) (by rw [List.getElem?_set, if_pos rfl, if_pos hi0]) (by decide) rfl
  subst ha
  injection ha' with ha'
  injection ha' with ha'
  subst ha'
  rw [List.set_set] at hq3
  have hqw : q < w.heap.size := (h.row.lt q rfl).2
  have hbq : b ≠ q := fun hh => h.ne q rfl hh.symm
  have dd : ∀ S w', Upd S w w' → b ∉ S → w'.cell? ⟨b, 0, none⟩ = some (.slice (some ⟨q, 0, none⟩) SL.length c) ∧ b < w'.heap.size := fun S w' hu hb => by
    have := hu.heap h.blk hb
    exact ⟨by rw [cell_of_heap this]; rfl, heap_lt this⟩
  have hU3 : Upd [q] w (((w.alloc (.cells #[.int .i64 0, .int .u64 0] 40)).setCell ⟨q, i0 * 3 + 1, none⟩ (.int .i64 k)).setCell ⟨q, i0 * 3 + 2, none⟩ (.string x)) := ((Upd.of_below hB1).trans hu2).trans hu3
  have hU2 : Upd [q] w ((w.alloc (.cells #[.int .i64 0, .int .u64 0] 40)).setCell ⟨q, i0 * 3 + 1, none⟩ (.int .i64 k)) := (Upd.of_below hB1).trans hu2
  obtain ⟨k0, _⟩ := dd _ _ (Upd.refl [] w) (by simp)
  obtain ⟨k1, _⟩ := dd _ _ (Upd.of_below (S := []) hB1) (by simp)
  obtain ⟨k2, _⟩ := dd _ _ hU2 (by simpa using hbq)
  obtain ⟨k3, _⟩ := dd _ _ hU3 (by simpa using hbq)
  rw [d0] at k0
  injection k0 with k0
  injection k0 with k0 _ k00
  replace k0 := k0.symm
  replace k00 := k00.symm
  subst k0 k00
  have hs1 : (SL.set i0 ⟨s0.gen, k, s0.x⟩)[i0]? = some ⟨s0.gen, k, s0.x⟩ := by rw [List.getElem?_set, if_pos rfl, if_pos hi0]
  have hs2 : (SL.set i0 ⟨s0.gen, k, x⟩)[i0]? = some ⟨s0.gen, k, x⟩ := by rw [List.getElem?_set, if_pos rfl, if_pos hi0]
  have at' : ∀ {w' : World} {L : List Sl} {y : Sl}, RfQ w' b (some ⟨q, 0, none⟩) c L → L[i0]? = some y → w'.cell? ⟨q, i0 * 3, none⟩ = some (.int .u64 y.gen) ∧ w'.cell? ⟨q, i0 * 3 + 1, none⟩ = some (.int .i64 y.who) ∧ w'.cell? ⟨q, i0 * 3 + 2, none⟩ = some (.string y.x) := fun hR hy => by
    obtain ⟨q2, c2, he, _, _, _, g0, g1, g2⟩ := hR.rf.at hy
    have := hR.blk
    rw [cell_of_heap this] at he
    injection he with he
    injection he with he
    injection he with he
    injection he with he
    subst he
    exact ⟨g0, g1, g2⟩
  obtain ⟨m0, m1, m2⟩ := at' h hs0
  obtain ⟨n0, n1, n2⟩ := at' hq2 hs1
  obtain ⟨p0, p1, p2⟩ := at' hq3 hs2
  have hlt2 : w.heap.size < ((w.alloc (.cells #[.int .i64 0, .int .u64 0] 40)).setCell ⟨q, i0 * 3 + 1, none⟩ (.int .i64 k)).heap.size := by simp [World.setCell]
  have e0 : w.heap.size ∉ [q] := by simp; omega
  have hr3 := hu3.heap (hu2.heap (heap_alloc_new w (.cells #[.int .i64 0, .int .u64 0] 40)) e0) e0
  have hN : Hid (∀ w', w' = (((w.alloc (.cells #[.int .i64 0, .int .u64 0] 40)).setCell ⟨q, i0 * 3 + 1, none⟩ (.int .i64 k)).setCell ⟨q, i0 * 3 + 2, none⟩ (.string x)) → ∀ u v, RfQ ((w'.setCell ⟨w.heap.size, 0, none⟩ u).setCell ⟨w.heap.size, 1, none⟩ v) b (some ⟨q, 0, none⟩) c (SL.set i0 ⟨s0.gen, k, x⟩) ∧ Upd [q] w ((w'.setCell ⟨w.heap.size, 0, none⟩ u).setCell ⟨w.heap.size, 1, none⟩ v)) := Lib.hid (fun w' hw u v => by
    subst hw
    exact ⟨hq3.upd (S := [w.heap.size]) (((Upd.refl _ _).setCell (p := ⟨w.heap.size, 0, none⟩) (by simp) _).setCell (p := ⟨w.heap.size, 1, none⟩) (by simp) _) (by simp; omega) (fun q' hq' => by simp [Value.ownBlock] at hq'; subst hq'; simp; omega), (hU3.setNew (p := ⟨w.heap.size, 0, none⟩) (Nat.le_refl _) _).setNew (p := ⟨w.heap.size, 1, none⟩) (Nat.le_refl _) _⟩)
  replace h := Lib.hid h
  replace hno := Lib.hid hno
  replace hs0 := Lib.hid hs0
  replace hr3 := Lib.hid hr3
  rw [h00] at m1
  replace h00 := Lib.hid h00
  clear dd at' hs1 hs2 hB1 hq1 hq2 hq3 hU2 hU3 hu2 hu3 hn
  go_enter Try.func44, Try.ntmps44
  go_wp2_with fail
  go_loopg [8] i0 (fun gk iv wr => ∃ i : Nat, gk = i0 - i ∧ i ≤ i0 ∧ iv = .int .i64 i ∧ wr = w.alloc (.cells #[.int .i64 0, .int .u64 0] 40))
  case atStart => exact ⟨0, rfl, Nat.zero_le _, rfl, rfl⟩
  case round =>
    obtain ⟨i, rfl, hi, rfl, rfl⟩ := hrel
    have hiL : i < SL.length := by omega
    by_cases hlt : i < i0
    · obtain ⟨s, hs⟩ : ∃ s, SL[i]? = some s := ⟨_, List.getElem?_eq_getElem hiL⟩
      obtain ⟨q', c', d1, _, hq, _, g0, g1, g2⟩ := h.out.rf.at hs
      rw [d0] at d1
      injection d1 with d1
      injection d1 with d1 _ d2
      injection d1 with d1
      injection d1 with d1
      subst d1 d2
      have hw0 := hno.out i s hlt hs
      have hw1 : ((s.who : Int) == 0) = false := by simp; omega
      replace hs := Lib.hid hs
      clear hw0
      go_wp2_with fail
      go_roundg (i0 - (i + 1))
      case measure => omega
      case rel => exact ⟨i + 1, rfl, by omega, by go_num, rfl⟩
    · obtain rfl : i = i0 := by omega
      go_upto_region 6 with fail
      obtain ⟨w2, hw2⟩ : ∃ w2, w2 = (w.alloc (.cells #[.int .i64 0, .int .u64 0] 40)).setCell ⟨q, i * 3 + 1, none⟩ (.int .i64 k) := ⟨_, rfl⟩
      rw [← World.setCell_alloc_past _ _ _ _ (show (⟨q, i * 3 + 1, none⟩ : Addr).block < w.heap.size from hqw)]
      rw [← hw2] at k2 n0 n1 n2 hf2 hlt2 k3 p0 p1 p2 hr3 hN ⊢
      clear hw2
      go_upto_region 7 with fail
      obtain ⟨w3, hw3⟩ : ∃ w3, w3 = w2.setCell ⟨q, i * 3 + 2, none⟩ (.string x) := ⟨_, rfl⟩
      rw [← hw3] at k3 p0 p1 p2 hr3 hN ⊢
      have hfin := Lib.hid (hN.out w3 rfl)
      clear hw3 hN
      have r0 : w3.cell? ⟨w.heap.size, 0, none⟩ = some (.int .i64 0) := by rw [cell_of_heap hr3.out]; rfl
      have r1 : w3.cell? ⟨w.heap.size, 1, none⟩ = some (.int .u64 0) := by rw [cell_of_heap hr3.out]; rfl
      have rf0 : w3.frozen? ⟨w.heap.size, 0, none⟩ = false := frozen_of_heap hr3.out _
      have rf1 : w3.frozen? ⟨w.heap.size, 1, none⟩ = false := frozen_of_heap hr3.out _
      have rl : w.heap.size < w3.heap.size := heap_lt hr3.out
      go_wp2_with fail
      refine bodyPost_ret (v := .tuple #[.agg #[.int .i64 i, .int .u64 s0.gen], .int .i64 0]) (by simp [results, Try.results44, go_sem, r0, r1]) rfl ⟨s0, hs0.out, rfl, hfin.out _ _⟩
end Go.Proofs.Ytoknkedmpdcinaa
