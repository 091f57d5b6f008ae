/- The law EpochPlays: its function collect. -/
import Derived.Test.YtidiefcgepllmaaPlaysP
namespace Go.Proofs.Ytidiefcgepllmaa
open Go.RowKit
def ColEnd (B : PB) (m : Nat) (w0 : World) (k : Nat) (q : Ending) (w' : World) : Prop := q = .returned (.bool true) ∧ ∃ x' g' L', EWP B m w0 w' x' g' false L' ∧ PI x' g' L' (k + 1)
theorem ival {a b : Int} (h : a = b) : Value.int .i64 a = Value.int .i64 b := by rw [h]
theorem beq_nat {a b : Nat} (h : a = b) : ((a : Int) == b) = true := by subst h; simp
set_option maxRecDepth 100000 in
set_option maxHeartbeats 4000000 in
theorem collect4_any {B : PB} {m : Nat} {w0 w : World} {x : PlSt} {g : EpG} {L : List Ret} {k : Nat} (h : EWP B m w0 w x g false L) (hP : PI x g L k) (hk : k ≤ 100) :
    Calls Try.prog 23 #[.pointer (some ⟨B.xb, 0, none⟩)] w (ColEnd B m w0 k) := by
  obtain ⟨ra, rc, aa, ac, ho⟩ := h.wopen
  have c0 := ho.c0
  have c2 := ho.c2
  have c4 := ho.c4
  have xl := ho.lt
  clear ho
  have bL := hP.bL
  have bA := hP.bA
  have bR := hP.bR
  have bN := hP.bN
  have bS := hP.bS
  have hcl := Lib.hid (EW.Collect (clo_plays B m x.bx) h hP.fns (by omega) (by omega) ⟨fun b hb => hb, by omega, by omega, by omega⟩)
  have hrl : x.RL.length = L.length := hP.mat.len.symm
  replace h := Lib.hid h
  replace hP := Lib.hid hP
  replace hrl := Lib.hid hrl
  generalize hbf : x.ran.length = bf at c2
  generalize hcn : x.acts.length = cn at c4
  replace hbf := Lib.hid hbf
  replace hcn := Lib.hid hcn
  go_enter Try.func23, Try.ntmps23
  go_wp2_with fail
  refine hcl.out.mono ?_
  clear hcl
  rintro z w1 ⟨n', kept', later', x', g', rfl, hco, h1⟩
  replace h1 : EWP B m w0 w1 x' g' false (kept' ++ later') := h1
  have hsuf := Suf.of_coll hco
  have hbd := hsuf.bd
  have huq := h1.uniq
  obtain ⟨ra1, rc1, aa1, ac1, ho1⟩ := h1.wopen
  have d1 := ho1.c1
  obtain ⟨O2, hJ, _⟩ := h1.doc
  obtain ⟨la, lc, e1, wl, _⟩ := hJ.entry
  have hx1 : x'.RL.length = L.length := by rw [hbd.1.RL, hrl.out]
  rw [hx1] at e1
  have xl1 := ho1.lt
  have hm0 : Mat x'.bx g (([] : List Ret) ++ L ++ []) x'.P x'.RL := by
    rw [hbd.1.P, hbd.1.RL, List.append_nil, List.nil_append]
    exact hP.out.mat.mono hsuf.gr.1.bx
  have hgr := hsuf.gr
  rw [hbf.out] at hgr
  clear ho1 hJ hco hx1
  have hh1 : EWP B m w0 w1 { x' with P := x'.P, RL := x'.RL } g' false (kept' ++ later') := h1
  have hz0 : x'.ran.length = bf + n' := by have := hgr.2; omega
  have hb1 : x'.acts.length ≤ 11000 := by have := hbd.1.acts; omega
  have hb2 : x'.ran.length ≤ 11000 := by have := hbd.1.ran; omega
  replace hz0 := Lib.hid hz0
  replace hsuf := Lib.hid hsuf
  replace hbd := Lib.hid hbd
  replace huq := Lib.hid huq
  replace hm0 := Lib.hid hm0
  replace hgr := Lib.hid hgr
  replace hh1 := Lib.hid hh1
  clear h1
  go_wp2_with fail
  go_loopg [4, 6, 7, 8] L.length (fun gk cv mv av dv wr => ∃ (xs : PlSt) (gs : EpG) (kept later rest : List Ret) (n : Nat) (P : List Int) (RL : List (Int × List Int)), gk = rest.length ∧ cv = .int .i64 xs.acts.length ∧ mv = .int .i64 ((kept.length + rest.length : Nat) : Int) ∧ av = .int .i64 kept.length ∧ dv = .int .i64 n ∧
    Suf Rpl x' g' kept' later' n' xs gs kept later n rest ∧ Mat x'.bx gs (kept ++ rest ++ later) P RL ∧ xs.ran.length = bf + n ∧ gs.S.length ≤ gs.now ∧ kept.length + later.length + rest.length ≤ 100 ∧ gs.now + rest.length ≤ 20000 ∧ EWP B m w0 wr { x' with P := P, RL := RL } g' false (kept' ++ later'))
  case atStart => exact ⟨x, g, [], [], L, 0, x'.P, x'.RL, rfl, by rw [hcn.out], by simp, rfl, rfl, hsuf.out, hm0.out, by rw [hbf.out]; rfl, by omega, by simp; omega, by omega, hh1.out⟩
  case round =>
    obtain ⟨xs, gs, kept, later, rest, n, P, RL, rfl, rfl, rfl, rfl, rfl, hs, hm, hran, hgS, hlen, hgn, hE⟩ := hrel
    clear hh1 hm0 e1 wl d1
    obtain ⟨rb, rc2, ab, ac2, ho⟩ := EWP.wopen hE
    have d0 := ho.c0
    have d1 := ho.c1
    have d2 := ho.c2
    have d3 := ho.c3
    have d5 := ho.c5
    have xlr := ho.lt
    obtain ⟨O2, hJ, hD⟩ := EWP.doc hE
    have hRl : RL.length = kept.length + rest.length + later.length := by have := hm.len; simp at this; omega
    have hRl' : RL.length ≤ 100000 := by omega
    have hPl : P.length ≤ 100000 := by rw [hm.pin, rising_len]; omega
    have hbn : bf + n ≤ 11000 := by have := hs.gr.1.ran.length_le; omega
    rcases hs.next with ⟨rfl, rfl, rfl, rfl, rfl, hnr⟩ | ⟨ys, r, zs, x1, g1, app, hrest, hnr, hr, hR, hs1⟩
    · have hno := hm.nonripe hnr
      have hcl := Lib.hid (rNext_none B.base B.wp P RL O2 kept.length (kept.length + rest.length) wr hJ hRl' (by omega) (by omega) hno)
      have hfin : PI { x' with P := P, RL := RL } g' ((kept ++ rest) ++ later') (k + 1) := hP.out.after hk hsuf.out hm
      have hq : ((x'.ran.length : Int) == (bf : Int) + (n' : Int)) = true := by rw [hran]; simp
      replace hnr := Lib.hid hnr
      replace hno := Lib.hid hno
      replace hfin := Lib.hid hfin
      replace hE := Lib.hid hE
      clear hm hs hJ hD ho hRl hRl' hPl hz0 hgr d3
      replace hran := Lib.hid hran
      go_wp2_with fail
      refine hcl.out.mono ?_
      clear hcl
      rintro z w2 ⟨rfl, rfl⟩
      go_wp2_with fail
      go_ret
      exact ⟨rfl, _, _, _, hE.out, hfin.out⟩
    · obtain ⟨i, a, u1, u2, u3, rfl, u5, u6, u7, u8⟩ := step_doc huq.out (by rw [hrest] at hm; exact hm) hnr hr hR hs1
      have hyl : rest.length = ys.length + 1 + zs.length := by rw [hrest]; simp; omega
      have hlen2 : kept.length + ys.length + 1 + zs.length + later.length ≤ 100 := by omega
      have hnl : kept.length + ys.length < kept.length + rest.length := by omega
      have hrp : 0 < rest.length := by omega
      have hcl := Lib.hid (rNext_at B.base B.wp P RL O2 kept.length (kept.length + rest.length) (kept.length + ys.length) (i : Int) wr hJ hRl' (by omega) (by omega) hnl u1 u6)
      rw [hran] at u2
      have hil : i < x'.acts.length := (List.getElem?_eq_some_iff.1 u3).1
      have hbl : bf + n < x'.ran.length := (List.getElem?_eq_some_iff.1 u2).1
      have gR : Hid (∀ w2, EWP B m w0 w2 { x' with P := P, RL := RL.eraseIdx (kept.length + ys.length) } g' false (kept' ++ later') → ∃ r0 r1 s0 s1, w2.cell? ⟨B.xb, 1, none⟩ = some (.pointer (some ⟨B.wp, 0, none⟩)) ∧ w2.cell? ⟨B.xb, 2, none⟩ = some (.slice (some ⟨r0, 0, none⟩) x'.ran.length r1) ∧ w2.cell? ⟨B.xb, 3, none⟩ = some (.slice (some ⟨s0, 0, none⟩) x'.acts.length s1) ∧ w2.cell? ⟨r0, bf + n, none⟩ = some (.int .i64 i) ∧ w2.cell? ⟨s0, i * 3 + 1, none⟩ = some (.int .i64 a.t) ∧ w2.cell? ⟨s0, i * 3 + 2, none⟩ = some (.int .i64 a.h) ∧ B.xb < w2.heap.size ∧ r0 < w2.heap.size ∧ s0 < w2.heap.size) := Lib.hid (fun w2 h2 => by
        obtain ⟨ra2, rc2, aa2, ac2, ho2⟩ := EWP.wopen h2
        obtain ⟨r0, r1, e0, _, _, rl, _, _, _, hc⟩ := ho2.ran.at u2
        obtain ⟨s0, s1, f0, _, _, sl, _, _, _, hd⟩ := ho2.act.at u3
        have hc0 := hc 0 _ rfl
        have hd1 := hd 1 _ rfl
        have hd2 := hd 2 _ rfl
        rw [Nat.mul_one, Nat.add_zero] at hc0
        injection e0 with e1 _ e2
        injection f0 with f1 _ f2
        subst e1 f1
        exact ⟨r0, _, s0, _, ho2.c1, ho2.c2, ho2.c3, hc0, hd1, hd2, ho2.lt, rl, sl⟩)
      have hw : Hid (WfA x'.acts) := Lib.hid (hbd.out.1.wf hP.out.wfA hP.out.wfS).1
      replace hE := Lib.hid hE
      replace hD := Lib.hid hD
      replace hs1 := Lib.hid hs1
      replace u7 := Lib.hid u7
      replace u8 := Lib.hid u8
      replace hran := Lib.hid hran
      replace u5 := Lib.hid u5
      replace hyl := Lib.hid hyl
      clear hrest
      replace hPl := Lib.hid hPl
      replace hRl := Lib.hid hRl
      clear hm hs hnr hr hR hJ ho hRl' hz0 hgr d2 d3 d5 u1 u2 u3 u6 hP hbd
      go_wp2_with fail
      refine hcl.out.mono ?_
      clear hcl
      rintro z w2 ⟨rfl, hr2⟩
      have h2 := hD.out _ _ _ hr2
      obtain ⟨r0, r1, s0, s1, z1, z2, z3, z4, z5, z6, z7, z8, z9⟩ := gR.out w2 h2
      replace h2 := Lib.hid h2
      clear hr2 hD hE d0 d1 xlr xl1
      have hD2 : Hid (EWP B m w0 w2.drew { x' with P := P, RL := RL.eraseIdx (kept.length + ys.length) } g' false (kept' ++ later')) := Lib.hid (EW.below (clo_plays B m x'.bx) h2.out (Below.refl w2.heap.size w2).drew)
      have hel : (RL.eraseIdx (kept.length + ys.length)).length ≤ 100000 := by rw [List.length_eraseIdx]; have := hRl.out; split <;> omega
      replace hel := Lib.hid hel
      have hthn := thenG_now a gs
      have hthS := thenG_bd (a := a) hgS
      by_cases a1 : a.h = 1
      · have hg1 : thenG a gs = pinG a.t gs := if_pos a1
        obtain ⟨O3, hJ3, hD3⟩ := EWP.doc hD2.out
        obtain ⟨u81, u82⟩ : x1.acts.length = xs.acts.length ∧ app = [] := by
          rcases u8.out with ⟨_, h9, h10⟩ | ⟨h9, _⟩
          · exact ⟨h9, h10⟩
          · rw [a1] at h9; cases h9
        rw [a1] at z6
        by_cases ht : ∃ y, y ∈ gs.S ∧ y.task = a.t
        · obtain ⟨hp1, hp2⟩ := u7.out.pin_old ht
          have hcl := Lib.hid (rPin_old B.base B.wp P _ O3 a.t w2.drew hJ3 hPl.out hp2)
          have h4 : Hid (EWP B m w0 w2.drew { x' with P := P, RL := RL.eraseIdx (kept.length + ys.length) } g' false (kept' ++ later') ∧ Mat x'.bx (thenG a gs) (kept ++ ys ++ zs ++ (later ++ app)) P (RL.eraseIdx (kept.length + ys.length))) := Lib.hid ⟨hD2.out, by rw [hg1, hp1, u82]; simpa using u7.out⟩
          replace hg1 := Lib.hid hg1
          replace u81 := Lib.hid u81
          replace u82 := Lib.hid u82
          clear ht hp1 hp2 hJ3 hD3 a1
          go_wp2_with fail
          go_still_tail 12, (by kernel_rfl)
          change wpList _ _ _ _ _ w2.drew
          go_wp2_with fail
          refine hcl.out.mono ?_
          clear hcl
          rintro z w4 ⟨rfl, rfl⟩
          go_wp2_with fail
          go_roundg zs.length
          case measure => have := hyl.out; omega
          case rel =>
            obtain ⟨q1, q2⟩ := h4.out
            exact ⟨x1, thenG a gs, kept ++ ys, later ++ app, zs, n + 1, _, _, rfl, ival (by rw [u81.out]), ival (by have := hyl.out; simp; omega), ival (by simp), ival (by simp), hs1.out, q2, by have := u5.out; have := hran.out; omega, hthS, by rw [u82.out]; simp; omega, by have := hyl.out; omega, q1⟩
        · have ht' : ∀ y, y ∈ gs.S → y.task ≠ a.t := fun y hy hh => ht ⟨y, hy, hh⟩
          obtain ⟨hp1, hp2⟩ := u7.out.pin_new ht'
          have hcl := Lib.hid (rPin_any B.base B.wp P _ O3 a.t w2.drew hJ3 hPl.out hp2)
          have hF : Hid (∀ w4, RefEnd B.base B.wp (P.take (cutAt P a.t) ++ a.t :: P.drop (cutAt P a.t)) (RL.eraseIdx (kept.length + ys.length)) O3 w2.drew w4 → EWP B m w0 w4 { x' with P := ins P a.t, RL := RL.eraseIdx (kept.length + ys.length) } g' false (kept' ++ later') ∧ Mat x'.bx (thenG a gs) (kept ++ ys ++ zs ++ (later ++ app)) (ins P a.t) (RL.eraseIdx (kept.length + ys.length))) := Lib.hid (fun w4 hr4 => ⟨hD3 _ _ _ hr4, by rw [hg1, u82]; simpa using hp1⟩)
          replace hg1 := Lib.hid hg1
          replace u81 := Lib.hid u81
          replace u82 := Lib.hid u82
          clear ht ht' hp1 hp2 hJ3 hD3 a1
          go_wp2_with fail
          go_still_tail 12, (by kernel_rfl)
          change wpList _ _ _ _ _ w2.drew
          go_wp2_with fail
          refine hcl.out.mono ?_
          clear hcl
          rintro z w4 ⟨rfl, hr4⟩
          have h4 := Lib.hid (hF.out w4 hr4)
          clear hr4
          go_wp2_with fail
          go_roundg zs.length
          case measure => have := hyl.out; omega
          case rel =>
            obtain ⟨q1, q2⟩ := h4.out
            exact ⟨x1, thenG a gs, kept ++ ys, later ++ app, zs, n + 1, _, _, rfl, ival (by rw [u81.out]), ival (by have := hyl.out; simp; omega), ival (by simp), ival (by simp), hs1.out, q2, by have := u5.out; have := hran.out; omega, hthS, by rw [u82.out]; simp; omega, by have := hyl.out; omega, q1⟩
      have b1 : (a.h == 1) = false := beq_eq_false_iff_ne.2 a1
      by_cases a2 : a.h = 2
      · have hg1 : thenG a gs = unpinG a.t gs := by unfold thenG; rw [a2]; rfl
        obtain ⟨O3, hJ3, hD3⟩ := EWP.doc hD2.out
        obtain ⟨u81, u82⟩ : x1.acts.length = xs.acts.length ∧ app = [] := by
          rcases u8.out with ⟨_, h9, h10⟩ | ⟨h9, _⟩
          · exact ⟨h9, h10⟩
          · rw [a2] at h9; cases h9
        rw [a2] at z6
        obtain ⟨hp1, hp2⟩ := u7.out.unpin (t := a.t)
        have hcl := Lib.hid (rUnpin_any B.base B.wp P _ O3 a.t w2.drew hJ3 hPl.out hel.out (fun r hr => by
          obtain ⟨j, hj⟩ := List.mem_iff_getElem?.1 hr
          have hjl := (List.getElem?_eq_some_iff.1 hj).1
          have hee := u7.out.ent.1
          obtain ⟨_, _, _, _, _, hq⟩ := u7.out.ent.2 j _ r (List.getElem?_eq_getElem (by rw [hee]; exact hjl)) hj
          rw [hq]
          exact Nat.le_trans (waits_len _ _) (by omega)))
        have hF : Hid (∀ w4, RefEnd B.base B.wp (wo P a.t) ((RL.eraseIdx (kept.length + ys.length)).map fun r => (r.1, wo r.2 a.t)) O3 w2.drew w4 → EWP B m w0 w4 { x' with P := wo P a.t, RL := (RL.eraseIdx (kept.length + ys.length)).map fun r => (r.1, wo r.2 a.t) } g' false (kept' ++ later') ∧ Mat x'.bx (thenG a gs) (kept ++ ys ++ zs ++ (later ++ app)) (wo P a.t) ((RL.eraseIdx (kept.length + ys.length)).map fun r => (r.1, wo r.2 a.t))) := Lib.hid (fun w4 hr4 => ⟨hD3 _ _ _ hr4, by rw [hg1, u82]; simpa using hp1⟩)
        replace hg1 := Lib.hid hg1
        replace u81 := Lib.hid u81
        replace u82 := Lib.hid u82
        clear hp1 hp2 hJ3 hD3 a1 a2 b1
        go_wp2_with fail
        go_still_tail 12, (by kernel_rfl)
        change wpList _ _ _ _ _ w2.drew
        go_wp2_with fail
        refine hcl.out.mono ?_
        clear hcl
        rintro z w4 ⟨rfl, hr4⟩
        have h4 := Lib.hid (hF.out w4 hr4)
        clear hr4
        go_wp2_with fail
        go_roundg zs.length
        case measure => have := hyl.out; omega
        case rel =>
          obtain ⟨q1, q2⟩ := h4.out
          exact ⟨x1, thenG a gs, kept ++ ys, later ++ app, zs, n + 1, _, _, rfl, ival (by rw [u81.out]), ival (by have := hyl.out; simp; omega), ival (by simp), ival (by simp), hs1.out, q2, by have := u5.out; have := hran.out; omega, hthS, by rw [u82.out]; simp; omega, by have := hyl.out; omega, q1⟩
      have b2 : (a.h == 2) = false := beq_eq_false_iff_ne.2 a2
      have hg1 : thenG a gs = gs := by unfold thenG; rw [if_neg a1, if_neg a2]
      by_cases a3 : a.h = 3
      · obtain ⟨O3, hJ3, hD3⟩ := EWP.doc h2.out
        obtain ⟨u81, y', hy', u82⟩ : x1.acts.length = xs.acts.length + 1 ∧ ∃ b', x'.bx[xs.acts.length]? = some b' ∧ app = [⟨35, capsP b', gs.now⟩] := by
          rcases u8.out with ⟨h9, _⟩ | ⟨_, h9, h10⟩
          · exact absurd a3 h9
          · exact ⟨h9, h10⟩
        rw [a3] at z6
        have hxa : xs.acts.length ≤ 11000 := by have := hs1.out.gr.1.acts.length_le; omega
        have hcl := Lib.hid (rRetire_any B.base B.wp P _ O3 (xs.acts.length : Int) w2 hJ3 hPl.out hel.out (by obtain ⟨v, O, s, _, hE, _⟩ := EWP.opens h2.out; exact hE.low))
        have hF : Hid (∀ w4, RefEnd B.base B.wp P (RL.eraseIdx (kept.length + ys.length) ++ [((xs.acts.length : Int), P)]) O3 w2 w4 → EWP B m w0 w4 { x' with P := P, RL := RL.eraseIdx (kept.length + ys.length) ++ [((xs.acts.length : Int), P)] } g' false (kept' ++ later') ∧ Mat x'.bx (thenG a gs) (kept ++ ys ++ zs ++ (later ++ app)) (P) (RL.eraseIdx (kept.length + ys.length) ++ [((xs.acts.length : Int), P)])) := Lib.hid (fun w4 hr4 => ⟨hD3 _ _ _ hr4, by rw [hg1, u82]; simpa using u7.out.retireAt hy'⟩)
        have hapl : Hid (app.length = 1) := Lib.hid (by rw [u82]; rfl)
        replace hg1 := Lib.hid hg1
        replace u81 := Lib.hid u81
        replace u82 := Lib.hid u82
        clear hJ3 hD3 a1 a2 a3 b1 b2 hy' hD2
        go_wp2_with fail
        refine hcl.out.mono ?_
        clear hcl
        rintro z w4 ⟨rfl, hr4⟩
        have h4 := Lib.hid (hF.out w4 hr4)
        clear hr4
        go_wp2_with fail
        go_roundg zs.length
        case measure => have := hyl.out; omega
        case rel =>
          obtain ⟨q1, q2⟩ := h4.out
          exact ⟨x1, thenG a gs, kept ++ ys, later ++ app, zs, n + 1, _, _, rfl, ival (by rw [u81.out]; simp), ival (by have := hyl.out; simp; omega), ival (by simp), ival (by simp), hs1.out, q2, by have := u5.out; have := hran.out; omega, hthS, by have := hapl.out; simp; omega, by have := hyl.out; omega, q1⟩
      · have b3 : (a.h == 3) = false := beq_eq_false_iff_ne.2 a3
        obtain ⟨u81, u82⟩ : x1.acts.length = xs.acts.length ∧ app = [] := by
          rcases u8.out with ⟨_, h9, h10⟩ | ⟨h9, _⟩
          · exact ⟨h9, h10⟩
          · exact absurd h9 a3
        have h4 : Hid (EWP B m w0 w2 { x' with P := P, RL := RL.eraseIdx (kept.length + ys.length) } g' false (kept' ++ later') ∧ Mat x'.bx (thenG a gs) (kept ++ ys ++ zs ++ (later ++ app)) P (RL.eraseIdx (kept.length + ys.length))) := Lib.hid ⟨h2.out, by rw [hg1, u82]; simpa using u7.out⟩
        replace hg1 := Lib.hid hg1
        replace u81 := Lib.hid u81
        replace u82 := Lib.hid u82
        clear a1 a2 a3 hD2
        go_wp2_with fail
        go_roundg zs.length
        case measure => have := hyl.out; omega
        case rel =>
          obtain ⟨q1, q2⟩ := h4.out
          exact ⟨x1, thenG a gs, kept ++ ys, later ++ app, zs, n + 1, _, _, rfl, ival (by rw [u81.out]), ival (by have := hyl.out; simp; omega), ival (by simp), ival (by simp), hs1.out, q2, by have := u5.out; have := hran.out; omega, hthS, by rw [u82.out]; simp; omega, by have := hyl.out; omega, q1⟩
end Go.Proofs.Ytidiefcgepllmaa
