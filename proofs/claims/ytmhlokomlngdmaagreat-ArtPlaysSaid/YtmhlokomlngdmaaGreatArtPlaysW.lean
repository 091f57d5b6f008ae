/- ArtPlays: the law's 'one' at any act; 'stands'; the world at the start. The walk of the law ArtPlays. -/
import Derived.Test.YtmhlokomlngdmaaGreatArtOn
import Derived.Test.YtmhlokomlngdmaaGreatArtLs
import Derived.Test.YtmhlokomlngdmaaGreatArtSm
import Derived.Deep.CutBlock
import Derived.Deep.DeepCutAuto
namespace Go.Proofs.YtmhlokomlngdmaaGreat
open Go.RowKit
section
variable {w0 w w' : World} {xb t ai dd c0 k p : Nat} {K : List (Nat × Obj)}
theorem one12_any (h : QS w0 w xb t ai dd K c0 k) (hk : k < 300) (hc : c0 ≤ 100000) (x : A12) (hkey : x.2.1.size ≤ 60) :
    Calls Tryz.prog 11 #[.pointer (some ⟨xb, 0, none⟩), .agg #[.int .u8 (x.1 : Nat), .string x.2.1, .string x.2.2.1, .bool x.2.2.2]] w (OEnd w0 xb t ai dd K c0 (k + 1)) := by
  obtain ⟨dn, x1, x2, aft⟩ := x
  simp only at hkey ⊢
  by_cases h0 : dn = 0
  · subst h0; exact one12_0 h hk hc x1 x2 aft hkey
  by_cases h1 : dn = 1
  · subst h1; exact one12_1 h hk hc x1 x2 aft hkey
  by_cases h2 : dn = 2
  · subst h2; exact one12_2 h hk hc x1 x2 aft hkey
  by_cases h3 : dn = 3
  · subst h3; exact one12_3 h hk hc x1 x2 aft hkey
  by_cases h4 : dn = 4
  · subst h4; exact one12_4 h hk hc x1 x2 aft hkey
  by_cases h5 : dn = 5
  · subst h5; exact one12_5 h hk hc x1 x2 aft hkey
  by_cases h6 : dn = 6
  · subst h6; exact one12_6 h hk hc x1 x2 aft hkey
  exact one12_n h hk hc dn x1 x2 aft hkey h0 h1 h2 h3 h4 h5 h6
set_option maxRecDepth 100000 in
set_option maxHeartbeats 4000000 in
theorem stands12_any (h : QS w0 w xb t ai dd K c0 k) (hk : k ≤ 300) :
    Calls Tryz.prog 12 #[.pointer (some ⟨xb, 0, none⟩)] w fun e w' => e = .returned (.bool true) ∧ Below w.heap.size w w' := by
  obtain ⟨g, C, L, H, ⟨T, dI, oa, oc, wa, wcp, hX⟩, hp⟩ := h
  have hv := hX.xv
  have v0 := hv.c0
  have v1 := hv.c1
  have hq := hv.xq
  have hdq := hv.dq
  have d0 : w.cell? ⟨dd, 0, none⟩ = some (.slice wa L.length wcp) := by rw [cell_of_heap hX.dk]; rfl
  have d3 : w.cell? ⟨dd, 3, none⟩ = some (.bool g) := by rw [cell_of_heap hX.dk]; rfl
  have hlk := hX.lk
  have hLe := fun W (hW : Below w.heap.size w W) => (hX.below hW).length
  have hSl := fun W (hW : Below w.heap.size w W) => (hX.below hW).slots
  have hCk := Lib.hid fun W (hW : Below w.heap.size w W) => (hX.below hW).check
  have hSd := fun W (hW : Below w.heap.size w W) => r12Slots_any wa wcp L W (hX.kp.1.below hW) (by omega) (fun x hx => Nat.le_trans (hX.ks x hx) (by simp [maxLen]))
  rw [nodesN_mem fun x => hp.mem_iff] at hSd
  rw [← hp.length_eq] at hLe
  obtain ⟨N, hN⟩ : ∃ N, N = nodesN C := ⟨_, rfl⟩
  obtain ⟨nl, hnl⟩ : ∃ n, n = L.length := ⟨_, rfl⟩
  rw [← hN] at hSd
  rw [← hnl] at hLe hSd d0
  have hS : ((slotR g C : Nat) : Int) = if g = true then 0 else (N : Int) := by
    rw [hN]
    cases g <;> rfl
  rw [hS] at hSl
  replace hLe := Lib.hid hLe
  replace hSl := Lib.hid hSl
  replace hSd := Lib.hid hSd
  replace hN := Lib.hid hN
  replace hnl := Lib.hid hnl
  clear hX hp hv hlk hS
  cases g with
  | true =>
    simp only [if_true] at hSl
    clear hSd
    go_enter Tryz.func12, Tryz.ntmps12
    go_upto_region 4 with fail
    go_region_held3 (fun W' => W'.cell? ⟨xb, 0, none⟩ = some (.pointer (some ⟨t, 0, none⟩)) ∧ W'.cell? ⟨xb, 1, none⟩ = some (.pointer (some ⟨dd, 0, none⟩)) ∧ W'.cell? ⟨dd, 0, none⟩ = some (.slice wa nl wcp)) (first | exact ⟨v0, v1, d0⟩ | exact ⟨i0, i1, i2⟩ | exact ⟨l0, l1, l2⟩ | exact ⟨m0, m1, m2⟩ | go_keep) (first
      | (go_at_call 22; refine (hCk.out _ j6).mono ?_; rintro z w7 ⟨rfl, hb7⟩; have j7 : Below w.heap.size w w7 := j6.trans (hb7.mono j6.size); have m0 := keep j7 v0; have m1 := keep j7 v1; have m2 := keep j7 d0)
      | (go_at_call 19; refine (hSl.out _ j5).mono ?_; rintro z w6 ⟨rfl, hb6⟩; have j6 : Below w.heap.size w w6 := j5.trans (hb6.mono j5.size); have l0 := keep j6 v0; have l1 := keep j6 v1; have l2 := keep j6 d0)
      | (go_at_call 20; refine (hLe.out _ (drew_bel _)).mono ?_; rintro z w5 ⟨rfl, hw5⟩; have j5 : Below w.heap.size w w5 := hw5 ▸ drew_bel _; have i0 := keep j5 v0; have i1 := keep j5 v1; have i2 := keep j5 d0; clear hw5))
    all_goals
      go_wp2_with fail
      go_ret
      exact ⟨by simp, j7⟩
  | false =>
    simp only [Bool.false_eq_true, if_false] at hSl
    go_enter Tryz.func12, Tryz.ntmps12
    go_wp2_with fail
    refine (hSd.out w (Below.refl _ _)).mono ?_
    clear hSd
    rintro z w1 ⟨rfl, hb1⟩
    have y0 := keep hb1 v0
    have y1 := keep hb1 v1
    have y2 := keep hb1 d0
    have yq := Nat.lt_of_lt_of_le hq hb1.size
    have ydq := Nat.lt_of_lt_of_le hdq hb1.size
    have hb1' := Lib.hid hb1
    clear v0 v1 d0 d3 hq hdq
    replace hb1 := Lib.hid hb1
    go_upto_region 4 with fail
    go_region_held3 (fun W' => W'.cell? ⟨xb, 0, none⟩ = some (.pointer (some ⟨t, 0, none⟩)) ∧ W'.cell? ⟨xb, 1, none⟩ = some (.pointer (some ⟨dd, 0, none⟩)) ∧ W'.cell? ⟨dd, 0, none⟩ = some (.slice wa nl wcp)) (first | exact ⟨y0, y1, y2⟩ | exact ⟨i0, i1, i2⟩ | exact ⟨l0, l1, l2⟩ | exact ⟨m0, m1, m2⟩ | go_keep) (first
      | (go_at_call 22; refine (hCk.out _ (hb1.out.trans (j6.mono hb1.out.size))).mono ?_; rintro z w7 ⟨rfl, hb7⟩; have j7 : Below w1.heap.size w1 w7 := j6.trans (hb7.mono j6.size); have m0 := keep j7 y0; have m1 := keep j7 y1; have m2 := keep j7 y2)
      | (go_at_call 19; refine (hSl.out _ (hb1.out.trans (j5.mono hb1.out.size))).mono ?_; rintro z w6 ⟨rfl, hb6⟩; have j6 : Below w1.heap.size w1 w6 := j5.trans (hb6.mono j5.size); have l0 := keep j6 y0; have l1 := keep j6 y1; have l2 := keep j6 y2)
      | (go_at_call 20; refine (hLe.out _ (hb1.out.trans ((drew_bel _).mono hb1.out.size))).mono ?_; rintro z w5 ⟨rfl, hw5⟩; have j5 : Below w1.heap.size w1 w5 := hw5 ▸ drew_bel _; have i0 := keep j5 y0; have i1 := keep j5 y1; have i2 := keep j5 y2; clear hw5))
    all_goals
      go_wp2_with fail
      go_ret
      exact ⟨by simp, hb1.out.trans (j7.mono hb1.out.size)⟩
/-- The document's tree, an arena of ints beside the trie, and the law's pair. -/
theorem start12 (h : ATx w0 w p t c0 []) :
    Calls Tryz.prog 10 #[.pointer (some ⟨p, 0, none⟩)] (w.alloc (.cells #[.slice none 0 0, .int .i64 c0, .int .i64 0, .bool false] 39)) fun e w' => ∃ ai, e = .returned (.pointer (some ⟨ai, 0, none⟩)) ∧
      QS w0 (w'.alloc (.cells #[.pointer (some ⟨t, 0, none⟩), .pointer (some ⟨w.heap.size, 0, none⟩), .pointer (some ⟨ai, 0, none⟩), .slice none 0 0] 44)) w'.heap.size t ai w.heap.size [] c0 0 := by
  obtain ⟨T, hT, rfl, rfl, hi, hD, hf⟩ := h
  have hq := hT.tq hi
  obtain ⟨o, ho⟩ : ∃ o, o = Obj.cells #[.slice none 0 0, .int .i64 c0, .int .i64 0, .bool false] 39 := ⟨_, rfl⟩
  rw [← ho]
  obtain ⟨w1, hw1⟩ : ∃ w1, w1 = w.alloc o := ⟨_, rfl⟩
  have hb1 : Below w.heap.size w w1 := by rw [hw1]; exact (Below.refl _ _).alloc (Nat.le_refl _) o
  have hdd : w1.heap[w.heap.size]? = some o := by rw [hw1]; exact heap_alloc_new w o
  rw [← hw1]
  clear hw1
  have hU1 : RU [] w w1 T.ρ (mark T.ρ w.heap.size 9) := (RU.below hq.bw.ro hb1).mark (Nat.le_refl _) (heap_lt hdd)
  have hq1 := hq.ru hU1 (by simp)
  refine (AInt.gNew (some ⟨T.P.1, 0, none⟩) [] w1).mono ?_
  rintro e w2 ⟨he, hb, hs, hA⟩
  obtain ⟨hAr, hU2⟩ := hq1.bw.ars.new hq1.bw.ro hb hs (ta := 85) (tc := 141) hA
  have hD1 : ∃ d, T.D = [d] := by
    match hh : T.D, hD with
    | [d], _ => exact ⟨d, rfl⟩
  obtain ⟨d, hDd⟩ := hD1
  have hd0 : T.d = d := by
    have := hq.hd
    rw [hDd] at this
    simp at this
    exact this.symm
  have hq2 := hq1.other (D' := T.D ++ [⟨85, 141, ⟨w1.heap.size + 1, w1.heap.size, [], 0⟩⟩]) ⟨hq1.bw.ro.step hU2 (by simp), hAr⟩ hU2 (by simp) (by simp) (by rw [hDd, hd0]; rfl) (fun j d' e e' hj hDj he' => by
    rw [hDd] at hDj
    match j, hj, hDj with
    | 1, _, hD =>
      injection hD with hD
      subst hD
      cases he'
    | j + 2, _, hD => simp at hD) (by
      have := hq.cnt
      rw [List.map_append, List.sum_append]
      simpa using this)
  refine ⟨_, he, ?_⟩
  obtain ⟨o2, ho2⟩ : ∃ o2, o2 = Obj.cells #[.pointer (some ⟨T.t, 0, none⟩), .pointer (some ⟨w.heap.size, 0, none⟩), .pointer (some ⟨w1.heap.size + 1, 0, none⟩), .slice none 0 0] 44 := ⟨_, rfl⟩
  rw [← ho2]
  obtain ⟨w3, hw3⟩ : ∃ w3, w3 = w2.alloc o2 := ⟨_, rfl⟩
  have hb3 : Below w2.heap.size w2 w3 := by rw [hw3]; exact (Below.refl _ _).alloc (Nat.le_refl _) o2
  have hxb : w3.heap[w2.heap.size]? = some o2 := by rw [hw3]; exact heap_alloc_new w2 o2
  rw [← hw3]
  clear hw3
  have hU3 := (RU.below (rs := []) hq2.bw.ro hb3).mark (r := 7) (Nat.le_refl _) (heap_lt hxb)
  have hq3 := hq2.ru hU3 (by simp)
  have hUU := hU2.trans hU3
  refine ⟨false, [], [], [], ⟨_, ⟨85, 141, ⟨w1.heap.size + 1, w1.heap.size, [], 0⟩⟩, none, 0, none, 0, hq3, rfl, hf, ?_, ⟨?_, rfl, rfl, rfl⟩, rfl, mark_self, ?_, Oth.nil _ _, ?_, ?_, KpA.nil _ _, Nat.le_refl _, Nat.le_refl _, by simp, by simp⟩, List.Perm.refl _⟩
  · show (T.D ++ [_]).length = 2
    rw [hDd]; rfl
  · show (T.D ++ [_])[1]? = _
    rw [hDd]; rfl
  · rw [hxb, ho2]; rfl
  · refine (hUU.role _ (heap_lt hdd)).trans ?_
    exact mark_self
  · rw [hUU.heap hdd (by simp), ho]; rfl
end
end Go.Proofs.YtmhlokomlngdmaaGreat
namespace Go.Proofs.YtmhlokomlngdmaaGreat
open Go.RowKit
set_option maxRecDepth 100000 in
set_option maxHeartbeats 8000000 in
theorem playsLaw_walk (a : Int) (s : Option Addr) (len cap : Nat) (rows : List (List Value)) (w : World) (_ha : (Lit.int .i64 a).wf = true) (hr : IsFlat [.inl .u8, .inr false, .inr false, .inr true] w s len rows) :
    Calls Tryz.prog 3 #[.int .i64 a, .slice s len cap] w fun e w' => e = .returned (.bool true) ∧ Below w.heap.size w w' := by
  have hlen : len ≤ maxLen := by
    rcases hr with ⟨h0, _⟩ | ⟨_, _, _, h1, _⟩
    · rw [h0]; exact Nat.zero_le _
    · exact h1
  obtain ⟨L, rfl, hL, hsz⟩ := acts_of_flat hr
  clear hr _ha
  have hGr := great12_any s cap L w hL hsz hlen
  obtain ⟨c0, hc1, hc2, hSl⟩ := l12Slots_any a
  unfold maxLen at hlen
  replace hL := Lib.hid hL
  replace hsz := Lib.hid hsz
  replace hSl := Lib.hid hSl
  go_enter Tryz.func3, Tryz.ntmps3
  go_wp2_with fail
  refine hGr.mono ?_
  clear hGr
  rintro e w2 ⟨rfl | ⟨rfl, h150, hsm⟩, hb2⟩
  · have hAw := awake12_any w2
    replace hb2 := Lib.hid hb2
    go_wp2_with fail
    refine hAw.mono ?_
    clear hAw
    rintro e w3 ⟨rfl, hb3⟩
    have hb := Lib.hid (hb2.out.trans (hb3.mono hb2.out.size))
    clear hb3
    go_wp2_with fail
    go_ret
    exact ⟨rfl, hb.out⟩
  have hro := Lib.hid hL.out
  replace hsm := Lib.hid hsm
  have hs1 := hSl.out w2
  have hNp := Lib.hid (arNewPool_some c0 w2 hc1 (by omega))
  replace hb2 := Lib.hid hb2
  go_wp2_with fail
  refine hs1.mono ?_
  clear hs1
  rintro e w3 ⟨rfl, rfl⟩
  go_wp2_with fail
  refine hNp.out.mono ?_
  clear hNp
  rintro e w3 ⟨p, g, f, rfl, hb3, hp1, hg1, hf1, hP1⟩
  have hs12 := hb2.out.size
  have hNw := Lib.hid (ATx.new (w0 := w) (hb2.out.trans (hb3.mono hs12)) hP1 ⟨Nat.le_trans hs12 hp1, Nat.le_trans hs12 hg1, Nat.le_trans hs12 hf1⟩ hc1)
  clear hb3 hs12 hp1 hg1 hf1 hP1
  go_wp2_with fail
  refine hNw.out.mono ?_
  clear hNw
  rintro e w4 ⟨t, rfl, hT⟩
  have hSt := Lib.hid (start12 hT)
  have hs1 := hSl.out w4
  clear hT
  go_wp2_with fail
  refine hs1.mono ?_
  clear hs1
  rintro e w5 ⟨rfl, rfl⟩
  go_wp2_with fail
  refine hSt.out.mono ?_
  clear hSt
  rintro e w5 ⟨ai, rfl, hY⟩
  generalize w4.heap.size = dd at *
  replace hY := Lib.hid hY
  obtain ⟨n, hn⟩ : ∃ n, n = L.length := ⟨_, rfl⟩
  rw [← hn] at h150 ⊢
  replace hn := Lib.hid hn
  go_upto_block 1 with fail
  generalize w5.alloc (.cells #[.pointer (some ⟨t, 0, none⟩), .pointer (some ⟨dd, 0, none⟩), .pointer (some ⟨ai, 0, none⟩), .slice none 0 0] 44) = w6 at *
  generalize w5.heap.size = xb at *
  go_loopg [10] n (fun gk v wr => ∃ k : Nat, gk = n - k ∧ k ≤ n ∧ v = .int .i64 k ∧ QS w wr xb t ai dd [] c0 k)
  case atStart => exact ⟨0, rfl, by omega, rfl, hY.out⟩
  case round =>
    clear hY
    obtain ⟨k, rfl, hk, rfl, hY⟩ := hrel
    by_cases hlt : k < n
    · obtain ⟨x, hx⟩ : ∃ x, L[k]? = some x := ⟨_, List.getElem?_eq_getElem (by have := hn.out; omega)⟩
      obtain ⟨b, off, rfl, hbw, hact⟩ := hro.out k x hx
      have hks := (hsm.out x (List.mem_of_getElem? hx)).1
      have hcl := Lib.hid (one12_any hY (by omega) (by omega) x hks)
      obtain ⟨e0, e1, e2, e3⟩ := hact.below hY.bel
      have hbw2 := block_lt_of_cell e0
      replace hact := Lib.hid hact
      replace hx := Lib.hid hx
      obtain ⟨dn, x1, x2, aft⟩ := x
      simp only at e0 e1 e2 e3 hcl
      have hA2 : (k : Int) < (n : Int) := by omega
      have hA3 : (0 : Int) ≤ (k : Int) := by omega
      have hw1 : IntKind.i64.wrap ((k : Int) + 1) = (k : Int) + 1 := IntWalk.i64_in _ (by omega)
      clear hY hks
      go_wp2_with fail
      refine hcl.out.mono ?_
      clear hcl
      rintro z w7 ⟨rfl, hY7⟩
      have hst := Lib.hid (stands12_any hY7 (by omega))
      replace hY7 := Lib.hid hY7
      clear e0 e1 e2 e3 hbw2
      go_wp2_with fail
      refine hst.out.mono ?_
      clear hst
      rintro z w8 ⟨rfl, hb8⟩
      have hY8 := Lib.hid (hY7.out.below hb8)
      clear hb8
      go_wp2_with fail
      go_roundg (n - (k + 1))
      case rel => exact ⟨k + 1, rfl, by omega, by go_num, hY8.out⟩
      case measure => omega
    · obtain rfl : k = n := by omega
      have hbel := Lib.hid hY.bel
      obtain ⟨g, C, Ld, H, ⟨T, dI, oa, oc, wa, wcp, hX⟩, hp⟩ := hY
      have hv := hX.xv
      have v1 := hv.c1
      have hq := hv.xq
      have hdq := hv.dq
      have d0 : wr.cell? ⟨dd, 0, none⟩ = some (.slice wa Ld.length wcp) := by rw [cell_of_heap hX.dk]; rfl
      have hlk := hX.lk
      have hpl := hp.length_eq
      have hAl := Lib.hid fun W (hW : Below wr.heap.size wr W) => (hX.below hW).all
      have hRa := Lib.hid fun W (hW : Below wr.heap.size wr W) => r7all_any wa wcp Ld C W (hX.kp.1.below hW) (by omega) (fun x hx => Nat.le_trans (hX.ks x hx) (by simp [maxLen])) hX.tq.cs (fun x => hp.mem_iff) (by omega)
      have hSm := Lib.hid fun W a1 c1 a2 c2 (h1 : At W 2 pcel a1 c1 C) (h2 : At W 2 pcel a2 c2 C) => same12_any a1 a2 c1 c2 C W h1 h2 (by omega)
      obtain ⟨nl, hnl⟩ : ∃ n, n = Ld.length := ⟨_, rfl⟩
      rw [← hnl] at hRa d0
      obtain ⟨nc, hnc⟩ : ∃ n, n = C.length := ⟨_, rfl⟩
      unfold AllEnd at hAl hRa
      rw [← hnc] at hAl hRa hSm
      replace hnl := Lib.hid hnl
      replace hnc := Lib.hid hnc
      clear hX hp hv hlk hpl
      go_upto_region 13 with fail
      go_region_held3 (fun W' => W'.cell? ⟨xb, 1, none⟩ = some (.pointer (some ⟨dd, 0, none⟩)) ∧ W'.cell? ⟨dd, 0, none⟩ = some (.slice wa nl wcp)) (first | exact ⟨v1, d0⟩ | exact ⟨i0, i1⟩ | exact ⟨l0, l1⟩ | exact ⟨m0, m1⟩ | exact ⟨o0, o1⟩ | go_keep) (first
        | (go_at_call 6; refine (awake12_any _).mono ?_; rintro z w9 ⟨rfl, hb9⟩; have j9 : Below wr.heap.size wr w9 := j8.trans (hb9.mono j8.size); have o0 := keep j9 v1; have o1 := keep j9 d0)
        | (go_at_call 13; refine (hSm.out _ _ _ _ _ at5 at6).mono ?_; rintro z w8 ⟨rfl, hb8⟩; have j8 : Below wr.heap.size wr w8 := j6.trans (hb8.mono j6.size); have m0 := keep j8 v1; have m1 := keep j8 d0)
        | (go_at_call 15; refine (hRa.out _ j5).mono ?_; rintro z w6 ⟨a6, c6, rfl, hr6, hb6⟩; have j6 : Below wr.heap.size wr w6 := j5.trans (hb6.mono j5.size); have l0 := keep j6 v1; have l1 := keep j6 d0; have at6 := Row.at' (hnc.out ▸ hr6); have at5 := at4.below hb6)
        | (go_at_call 14; refine (hAl.out _ (drew_bel _)).mono ?_; rintro z w5 ⟨a5, c5, rfl, hr5, hb5⟩; have j5 : Below wr.heap.size wr w5 := bel_dr (k := 1) hb5; have i0 := keep j5 v1; have i1 := keep j5 d0; have at4 := Row.at' (hnc.out ▸ hr5)))
      all_goals
        go_wp2_with fail
        go_ret
        exact ⟨by simp, hbel.out.trans (j9.mono hbel.out.size)⟩
end Go.Proofs.YtmhlokomlngdmaaGreat
