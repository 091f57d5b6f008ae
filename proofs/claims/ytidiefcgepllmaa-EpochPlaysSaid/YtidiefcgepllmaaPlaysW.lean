/- The walk of the law EpochPlays: for any acts it returns true. -/
import Derived.Test.YtidiefcgepllmaaPlaysG
import Derived.Test.YtidiefcgepllmaaEpochActs
import Derived.Deep.CutBlock
import Derived.Deep.QuietTactic
import Derived.BigQuiet
import Derived.Deep.RegionHeld3
namespace Go.Proofs.Ytidiefcgepllmaa
open Go.RowKit
theorem epRetire_nil (base e m : Nat) (v : Value) (S : List Pn) (c now : Nat) (b : Bool) (L : List Ret) (w : World) (_h : EpIs base w e m v S c now b L) :
    Calls Try.prog 13 #[.pointer (some ⟨e, 0, none⟩), .nilFunc] w fun x w' => x = .returned (.bool false) ∧ w = w' := by
  have hnf : ∀ w, (binOp .eql 1 .nilFunc .nilFunc).run Try.prog w = .ok (.bool true) w := fun w => by kernel_rfl
  go_enter Try.func13, Try.ntmps13
  go_wp2_with fail
  go_ret
  exact ⟨rfl, rfl⟩
section
variable {B : PB} {m : Nat} {w0 w w' : World} {x x' : PlSt} {g g' : EpG} {b b' : Bool} {L L' : List Ret}
theorem EWP.Waiting (h : EWP B m w0 w x g b L) : Calls Try.prog 16 #[.pointer (some ⟨B.e, 0, none⟩)] w fun z w' => z = .returned (.int .i64 L.length) ∧ w = w' := by
  obtain ⟨v, O, s, hs, hE, hF⟩ := h.opens
  exact epWaiting_any B.base B.e m v g.S g.c g.now b L w hE.ep
theorem EWP.Retire_nil (h : EWP B m w0 w x g b L) : Calls Try.prog 13 #[.pointer (some ⟨B.e, 0, none⟩), .nilFunc] w fun z w' => z = .returned (.bool false) ∧ w = w' := by
  obtain ⟨v, O, s, hs, hE, hF⟩ := h.opens
  exact epRetire_nil B.base B.e m v g.S g.c g.now b L w hE.ep
theorem PI.more {k : Nat} (h : PI x g L k) : PI x g L (k + 1) := ⟨h.mat, h.wfA, h.wfS, by have := h.bL; omega, by have := h.bA; omega, by have := h.bR; omega, by have := h.bN; omega, h.bS⟩
theorem PI.xt {k : Nat} (h : PI x g L k) (t : List (Nat × Obj)) : PI { x with xt := t } g L k := ⟨h.mat, h.wfA, h.wfS, h.bL, h.bA, h.bR, h.bN, h.bS⟩
theorem PI.pin {k : Nat} {t : Int} {P : List Int} (h : PI x g L k) (ht : (Lit.int .i64 t).wf = true) (hm : Mat x.bx (pinG t g) L P x.RL) : PI { x with P := P } (pinG t g) L (k + 1) := by
  have e : pinG t g = thenG ⟨0, t, 1⟩ g := rfl
  have hn := thenG_now ⟨0, t, 1⟩ g
  rw [e] at hm ⊢
  exact ⟨hm, h.wfA, thenG_wf ht h.wfS, by have := h.bL; omega, by have := h.bA; show x.acts.length ≤ _; omega, by have := h.bR; show x.ran.length ≤ _; omega, by have := h.bN; omega, thenG_bd h.bS⟩
theorem PI.unpin {k : Nat} {t : Int} (h : PI x g L k) (ht : (Lit.int .i64 t).wf = true) : PI { x with P := wo x.P t, RL := x.RL.map fun r => (r.1, wo r.2 t) } (unpinG t g) L (k + 1) := by
  have e : unpinG t g = thenG ⟨0, t, 2⟩ g := rfl
  have hn := thenG_now ⟨0, t, 2⟩ g
  have hm := (h.mat.unpin (t := t)).1
  rw [e] at hm ⊢
  exact ⟨hm, h.wfA, thenG_wf ht h.wfS, by have := h.bL; omega, by have := h.bA; show x.acts.length ≤ _; omega, by have := h.bR; show x.ran.length ≤ _; omega, by have := h.bN; omega, thenG_bd h.bS⟩
theorem PI.ret {k : Nat} {a : A4} {y : Nat × Nat × Nat} (h : PI x g L k) (ht : (Lit.int .i64 a.t).wf = true) (hl : x.bx.length = x.acts.length) :
    PI { x with RL := x.RL ++ [((x.acts.length : Int), x.P)], acts := x.acts ++ [a], bx := x.bx ++ [y] } g (L ++ [⟨35, capsP y, g.now⟩]) (k + 1) := by
  refine ⟨by rw [← hl]; exact h.mat.retire y, fun z hz => ?_, h.wfS, by have := h.bL; simp; omega, by have := h.bA; simp; omega, by have := h.bR; show x.ran.length ≤ _; omega, by have := h.bN; omega, h.bS⟩
  rcases List.mem_append.1 hz with hz | hz
  · exact h.wfA z hz
  · simp at hz; subst hz; exact ht
end
def MW (w0 w : World) (B : PB) (m k : Nat) : Prop := ∃ x g L, EWP B m w0 w x g false L ∧ PI x g L k
theorem PI.nil : PI ⟨[], [], [], [], [], []⟩ ⟨[], 0, 0⟩ [] 0 := ⟨⟨by simp, by simp, by simp, by simp [rising], rfl, by simp⟩, by intro a ha; simp at ha, by intro a ha; simp at ha, Nat.le_refl _, Nat.le_refl _, Nat.le_refl _, Nat.le_refl _, Nat.le_refl _⟩
theorem MW.start {w w1 w2 w3 : World} (hb1 : Below w.heap.size w w1) (hb2 : Below w1.heap.size w1 w2) (hE : EpIs w1.heap.size w2 (w1.heap.size + 1) w1.heap.size (.slice none 0 0) [] 0 0 false []) (hs : w2.heap.size = w1.heap.size + 2)
    (e3 : w3 = (w2.alloc (.cells #[.slice none 0 0, .slice none 0 0] 35)).alloc (.cells #[.pointer (some ⟨w1.heap.size + 1, 0, none⟩), .pointer (some ⟨w2.heap.size, 0, none⟩), .slice none 0 0, .slice none 0 0, .int .i64 0, .bool false] 37)) :
    MW w w3 ⟨w1.heap.size, w2.heap.size + 1, w1.heap.size + 1, w2.heap.size⟩ w1.heap.size 0 := by
  have hB3 : Below w2.heap.size w2 w3 := by rw [e3]; exact ((Below.refl _ _).alloc (Nat.le_refl _) _).alloc (by simp) _
  have b0 : w3.heap[w2.heap.size]? = some (.cells #[.slice none 0 0, .slice none 0 0] 35) := by rw [e3]; exact heap_alloc_old _ (heap_alloc_new _ _)
  have b1 : w3.heap[w2.heap.size + 1]? = some (.cells #[.pointer (some ⟨w1.heap.size + 1, 0, none⟩), .pointer (some ⟨w2.heap.size, 0, none⟩), .slice none 0 0, .slice none 0 0, .int .i64 0, .bool false] 37) := by
    have := heap_alloc_new (w2.alloc (.cells #[.slice none 0 0, .slice none 0 0] 35)) (.cells #[.pointer (some ⟨w1.heap.size + 1, 0, none⟩), .pointer (some ⟨w2.heap.size, 0, none⟩), .slice none 0 0, .slice none 0 0, .int .i64 0, .bool false] 37)
    simp only [World.size_alloc] at this
    rw [e3]
    exact this
  have hz3 : w3.heap.size = w2.heap.size + 2 := by rw [e3]; simp
  have hz1 := hb1.size
  refine ⟨⟨[], [], [], [], [], []⟩, ⟨[], 0, 0⟩, [], ⟨.slice none 0 0, [w2.heap.size, w2.heap.size + 1], ⟨⟨hE.below hB3, ⟨⟨[], [], [], [], 0, []⟩, ⟨rfl, rfl, rfl, rfl, rfl, rfl, by simp, by simp⟩, fun k => if k = w2.heap.size + 1 then 1 else 5, .slice none 0 0, .slice none 0 0, ⟨fun k hk => ?_, ⟨by simp, by simp⟩, by simp [Value.ownBlock], by simp [Value.ownBlock], b1, Row.nil (k := 1) (f := intCell) (fun _ => rfl) intCell_one _ _ _, Row.nil (k := 3) (f := actCell) (fun _ => rfl) actCell_one _ _ _, by simp, [w2.heap.size], ⟨.slice none 0 0, .slice none 0 0, [], ⟨b0, Row.nil (k := 1) (f := intCell) (fun _ => rfl) intCell_one _ _ _, Row.nil (k := 2) (f := rfCell) (fun _ => rfl) rfCell_one _ _ _, by simp, by show w1.heap.size ≤ w2.heap.size; omega⟩, rfl, by simp, by simp [Value.ownBlock], by simp [Value.ownBlock], by simp, fun k hk => ?_⟩, fun k hk => ?_⟩⟩, ?_, ?_, by simp [Value.ownBlock]⟩, (hb1.trans (hb2.mono hz1)).trans (hB3.mono (by omega)), fun k hk => ?_, by show w1.heap.size ≤ _; omega⟩⟩, PI.nil⟩
  · simp at hk
    rcases hk with rfl | rfl <;> (show w1.heap.size ≤ _ ∧ _; omega)
  · simp at hk; subst hk; show w1.heap.size ≤ _ ∧ _; omega
  · simp at hk; subst hk; simp
  · simp; omega
  · simp; omega
  · simp [foot, Value.ownBlock] at hk
    omega
/-- What the law's last loop reads. -/
structure QW (B : PB) (m : Nat) (w0 : World) (c : Nat) (x : PlSt) (g : EpG) (L : List Ret) (pv qv : Value) (M : List Int) (w : World) : Prop where
  ew : EWP B m w0 w x g false L
  pr : Row c 3 1 intCell w pv M
  qr : Row B.base 3 1 intCell w qv M
  c1 : w.cell? ⟨B.xb, 1, none⟩ = some (.pointer (some ⟨B.wp, 0, none⟩))
  e0 : w.cell? ⟨B.wp, 0, none⟩ = some qv
theorem QW.below {B : PB} {m c : Nat} {w0 w w1 : World} {x : PlSt} {g : EpG} {L : List Ret} {pv qv : Value} {M : List Int} (h : QW B m w0 c x g L pv qv M w) (hb : Below w.heap.size w w1) : QW B m w0 c x g L pv qv M w1 :=
  ⟨EW.below (clo_plays B m x.bx) h.ew hb, h.pr.below hb, h.qr.below hb, keep hb h.c1, keep hb h.e0⟩
set_option maxRecDepth 100000 in
set_option maxHeartbeats 4000000 in
theorem playsLaw_walk (s : Option Addr) (len cap : Nat) (rows : List (List Value)) (w : World) (hr : IsFlat act4K w s len rows) :
    Calls Try.prog 4 #[.slice s len cap] w fun e w' => e = .returned (.bool true) ∧ Below w.heap.size w w' := by
  have hro := Lib.hid (act4_row hr)
  clear hr
  go_enter Try.func4, Try.ntmps4
  go_wp2_with fail
  refine (awake4_any _).mono ?_
  rintro e w1 ⟨rfl, hb1⟩
  have HB1 := Lib.hid hb1
  clear hb1
  by_cases hl : 100 < len
  · go_wp2_with fail
    go_ret
    exact ⟨rfl, HB1.out⟩
  go_wp2_with fail
  refine (epNew_any w1.heap.size w1).mono ?_
  rintro z w2 ⟨rfl, hb2, hE2, hs2⟩
  obtain ⟨B, eb, hst⟩ : ∃ B : PB, B = ⟨w1.heap.size, w2.heap.size + 1, w1.heap.size + 1, w2.heap.size⟩ ∧ MW w ((w2.alloc (.cells #[.slice none 0 0, .slice none 0 0] 35)).alloc (.cells #[.pointer (some ⟨w1.heap.size + 1, 0, none⟩), .pointer (some ⟨w2.heap.size, 0, none⟩), .slice none 0 0, .slice none 0 0, .int .i64 0, .bool false] 37)) B w1.heap.size 0 := ⟨_, rfl, MW.start HB1.out hb2 hE2 hs2 rfl⟩
  have ex : w2.heap.size + 1 = B.xb := by rw [eb]
  replace ex := Lib.hid ex
  replace hst := Lib.hid hst
  clear hb2 hE2 hs2 eb
  go_wp2_with fail
  rw [ex.out]
  generalize ((w2.alloc (.cells #[.slice none 0 0, .slice none 0 0] 35)).alloc (.cells #[.pointer (some ⟨w1.heap.size + 1, 0, none⟩), .pointer (some ⟨w2.heap.size, 0, none⟩), .slice none 0 0, .slice none 0 0, .int .i64 0, .bool false] 37)) = w3 at *
  generalize w1.heap.size = m at *
  clear ex HB1
  go_loopg [4] len (fun gk iv wr => ∃ k : Nat, gk = len - k ∧ k ≤ len ∧ iv = .int .i64 k ∧ MW w wr B m k)
  case atStart => exact ⟨0, rfl, Nat.zero_le _, rfl, hst.out⟩
  case round =>
    obtain ⟨k, rfl, hk, rfl, x, g, L, hE, hP⟩ := hrel
    clear hst
    by_cases hlt : k < len
    · obtain ⟨b, off, rfl, hbw, d, t, th, q0, q1, q2, f0, f1, f2⟩ := hro.out k hlt
      replace q0 := keep (EW.bel hE) q0
      replace q1 := keep (EW.bel hE) q1
      replace q2 := keep (EW.bel hE) q2
      replace f1 := Lib.hid f1
      obtain ⟨x1, hE1, hP1, hbox⟩ : ∃ x1, EWP B m w (wr.alloc (.cells #[.int .i64 d, .int .i64 t, .int .i64 th] 39)) x1 g false L ∧ PI x1 g L k ∧ (wr.heap.size, Obj.cells #[.int .i64 d, .int .i64 t, .int .i64 th] 39) ∈ x1.xt := ⟨_, EWP.alloc hE _, hP.xt _, by simp⟩
      replace hE1 := Lib.hid hE1
      replace hP := Lib.hid hP1
      replace hbox := Lib.hid hbox
      replace f0 := Lib.hid f0
      replace f2 := Lib.hid f2
      clear hE hP1
      go_upto_block 2 with fail
      generalize wr.alloc (.cells #[.int .i64 d, .int .i64 t, .int .i64 th] 39) = w4 at *
      generalize wr.heap.size = ab at *
      clear q0 q1 q2
      have hC := Lib.hid (clo_plays B m x1.bx)
      have hbb : Hid (∀ wz x2 g2 L2, EWP B m w wz x2 g2 false L2 → x2.xt = x1.xt → wz.cell? ⟨ab, 0, none⟩ = some (.int .i64 d) ∧ wz.cell? ⟨ab, 1, none⟩ = some (.int .i64 t) ∧ wz.cell? ⟨ab, 2, none⟩ = some (.int .i64 th) ∧ ab < wz.heap.size) := Lib.hid (fun wz x2 g2 L2 h2 hx => by
        have := EWP.box h2 (p := (ab, Obj.cells #[.int .i64 d, .int .i64 t, .int .i64 th] 39)) (by rw [hx]; exact hbox.out)
        exact ⟨by rw [cell_of_heap this]; rfl, by rw [cell_of_heap this]; rfl, by rw [cell_of_heap this]; rfl, heap_lt this⟩)
      obtain ⟨z0, z1, z2, z3⟩ := hbb.out w4 _ _ _ hE1.out rfl
      obtain ⟨ra, rc, aa, ac, ho⟩ := EWP.wopen hE1.out
      have c0 := ho.c0
      have c1 := ho.c1
      have c4 := ho.c4
      have cl := ho.lt
      clear ho
      have bN := hP.out.bN
      have bS := hP.out.bS
      have bA := hP.out.bA
      have bL := hP.out.bL
      have hPl : Hid (x1.P.length ≤ 100000) := Lib.hid (by rw [hP.out.mat.pin, rising_len]; omega)
      have hRl : Hid (x1.RL.length ≤ 100000) := Lib.hid (by have := hP.out.mat.len; omega)
      have hD := Lib.hid (EW.below hC.out hE1.out (Below.refl w4.heap.size w4).drew)
      clear hro
      go_cut [30] (fun _ wx => MW w wx B m (k + 1))
      case first =>
        by_cases a0 : d = 0
        · subst a0
          by_cases ht : ∃ y, y ∈ g.S ∧ y.task = t
          · obtain ⟨hp1, hp2⟩ := hP.out.mat.pin_old ht
            have hcl := Lib.hid (EWP.Pin hD.out t (by omega) (d := false) (by simpa using ht))
            rw [hp1] at hcl
            replace hp2 := Lib.hid hp2
            replace hp1 := Lib.hid hp1
            clear ht
            go_wp2_with fail
            go_region_held3 (fun w' => w'.cell? ⟨B.xb, 0, none⟩ = some (.pointer (some ⟨B.e, 0, none⟩)) ∧ w'.cell? ⟨B.xb, 1, none⟩ = some (.pointer (some ⟨B.wp, 0, none⟩)) ∧ w'.cell? ⟨ab, 1, none⟩ = some (.int .i64 t)) (first | exact ⟨i0, i1, i2⟩ | go_keep) (first
              | (go_at_call 12; refine hcl.out.mono ?_; rintro z w5 ⟨rfl, h5⟩; obtain ⟨_, i2, _, _⟩ := hbb.out w5 _ _ _ h5 rfl; obtain ⟨_, _, _, _, ho⟩ := EWP.wopen h5; have i0 := ho.c0; have i1 := ho.c1; clear ho; replace h5 := Lib.hid h5)
              | (go_at_call 19; obtain ⟨O3, hJ3, _⟩ := EWP.doc h5.out; refine (rPin_old B.base B.wp x1.P _ O3 t _ hJ3 hPl.out hp2.out).mono ?_; clear hJ3; rintro z w6 ⟨rfl, rfl⟩))
            all_goals
              go_wp2_with fail
              go_meet
              exact ⟨_, _, _, h5.out, hP.out.more⟩
          · have ht' : ∀ y, y ∈ g.S → y.task ≠ t := fun y hy hh => ht ⟨y, hy, hh⟩
            obtain ⟨hp1, hp2⟩ := hP.out.mat.pin_new ht'
            have hcl := Lib.hid (EWP.Pin hD.out t (by omega) (d := true) (by simpa using ht))
            replace hp2 := Lib.hid hp2
            replace hp1 := Lib.hid hp1
            clear ht ht'
            go_wp2_with fail
            go_region_held3 (fun w' => w'.cell? ⟨B.xb, 0, none⟩ = some (.pointer (some ⟨B.e, 0, none⟩)) ∧ w'.cell? ⟨B.xb, 1, none⟩ = some (.pointer (some ⟨B.wp, 0, none⟩)) ∧ w'.cell? ⟨ab, 1, none⟩ = some (.int .i64 t)) (first | exact ⟨i0, i1, i2⟩ | go_keep) (first
              | (go_at_call 12; refine hcl.out.mono ?_; rintro z w5 ⟨rfl, h5⟩; obtain ⟨_, i2, _, _⟩ := hbb.out w5 _ _ _ h5 rfl; obtain ⟨_, _, _, _, ho⟩ := EWP.wopen h5; have i0 := ho.c0; have i1 := ho.c1; clear ho; replace h5 := Lib.hid h5)
              | (go_at_call 19; obtain ⟨O3, hJ3, hD3⟩ := EWP.doc h5.out; refine (rPin_any B.base B.wp x1.P _ O3 t _ hJ3 hPl.out hp2.out).mono ?_; clear hJ3; rintro z w6 ⟨rfl, hr6⟩; have h6 := hD3 _ _ _ hr6; clear hr6 hD3; obtain ⟨_, i2, _, _⟩ := hbb.out w6 _ _ _ h6 rfl; obtain ⟨_, _, _, _, ho⟩ := EWP.wopen h6; have i0 := ho.c0; have i1 := ho.c1; clear ho; replace h6 := Lib.hid h6))
            all_goals
              go_wp2_with fail
              go_meet
              exact ⟨_, _, _, h6.out, hP.out.pin f1.out hp1.out⟩
        have b0 : (d == 0) = false := beq_eq_false_iff_ne.2 a0
        by_cases a1 : d = 1
        · subst a1
          have hcl := EWP.Unpin hD.out t rfl
          have hdp : decide (t ∈ x1.P) = decide (∃ y, y ∈ g.S ∧ y.task = t) := decide_eq_decide.2 (hP.out.mat.unpin (t := t)).2
          have hWl : Hid (∀ r, r ∈ x1.RL → r.2.length ≤ 100000) := Lib.hid (fun r hr => by
            obtain ⟨j, hj⟩ := List.mem_iff_getElem?.1 hr
            have hjl := (List.getElem?_eq_some_iff.1 hj).1
            have hee := hP.out.mat.ent.1
            obtain ⟨_, _, _, _, _, hq⟩ := hP.out.mat.ent.2 j _ r (List.getElem?_eq_getElem (by rw [hee]; exact hjl)) hj
            rw [hq]
            exact Nat.le_trans (waits_len _ _) (by omega))
          generalize decide (∃ y, y ∈ g.S ∧ y.task = t) = dd at hcl hdp
          replace hcl := Lib.hid hcl
          replace hdp := Lib.hid hdp
          clear a0 b0
          cases dd
          all_goals
            go_wp2_with fail
            go_region_held3 (fun w' => w'.cell? ⟨B.xb, 0, none⟩ = some (.pointer (some ⟨B.e, 0, none⟩)) ∧ w'.cell? ⟨B.xb, 1, none⟩ = some (.pointer (some ⟨B.wp, 0, none⟩)) ∧ w'.cell? ⟨ab, 1, none⟩ = some (.int .i64 t)) (first | exact ⟨i0, i1, i2⟩ | go_keep) (first
              | (go_at_call 15; refine hcl.out.mono ?_; rintro z w5 ⟨rfl, h5⟩; obtain ⟨_, i2, _, _⟩ := hbb.out w5 _ _ _ h5 rfl; obtain ⟨_, _, _, _, ho⟩ := EWP.wopen h5; have i0 := ho.c0; have i1 := ho.c1; clear ho; replace h5 := Lib.hid h5)
              | (go_at_call 20; obtain ⟨O3, hJ3, hD3⟩ := EWP.doc h5.out; have hu := rUnpin_any B.base B.wp x1.P _ O3 t _ hJ3 hPl.out hRl.out hWl.out; rw [hdp.out] at hu; refine hu.mono ?_; clear hJ3 hu; rintro z w6 ⟨rfl, hr6⟩; have h6 := hD3 _ _ _ hr6; clear hr6 hD3; obtain ⟨_, i2, _, _⟩ := hbb.out w6 _ _ _ h6 rfl; obtain ⟨_, _, _, _, ho⟩ := EWP.wopen h6; have i0 := ho.c0; have i1 := ho.c1; clear ho; replace h6 := Lib.hid h6))
            all_goals
              go_wp2_with fail
              go_meet
              exact ⟨_, _, _, h6.out, hP.out.unpin f1.out⟩
        have b1 : (d == 1) = false := beq_eq_false_iff_ne.2 a1
        by_cases a2 : d = 2
        · subst a2
          obtain ⟨O3, hJ3, hD3⟩ := EWP.doc hD.out
          have hxl := EWP.len hE1.out
          have hcl := Lib.hid (rRetire_any B.base B.wp x1.P _ O3 (x1.acts.length : Int) w4.drew hJ3 hPl.out hRl.out (by obtain ⟨v, O, s, _, hE, _⟩ := EWP.opens hD.out; exact hE.low))
          replace hD3 := Lib.hid hD3
          replace hxl := Lib.hid hxl
          clear hJ3 a0 b0 a1 b1
          go_wp2_with fail
          go_still_tail 8, (by kernel_rfl)
          change wpList _ _ _ _ _ w4.drew
          go_wp2_with fail
          refine hcl.out.mono ?_
          clear hcl
          rintro z w5 ⟨rfl, hr5⟩
          have h5 := hD3.out _ _ _ hr5
          clear hr5 hD3 z0 z1 z2 z3 c0 c1 c4 cl
          obtain ⟨z0, z1, z2, z3⟩ := hbb.out w5 _ _ _ h5 rfl
          have hcl := Lib.hid (EWP.retire h5 ⟨2, t, th⟩ (by show x1.acts.length ≤ _; omega) (by omega))
          clear h5
          go_wp2_with fail
          refine hcl.out.mono ?_
          clear hcl
          rintro z w6 ⟨rfl, y, h6⟩
          replace h6 := Lib.hid h6
          go_wp2_with fail
          go_meet
          exact ⟨_, _, _, h6.out, hP.out.ret (a := ⟨2, t, th⟩) f1.out hxl.out⟩
        have b2 : (d == 2) = false := beq_eq_false_iff_ne.2 a2
        by_cases a3 : d = 3
        · subst a3
          have hcl := Lib.hid (collect4_any hE1.out hP.out (by omega))
          clear a0 b0 a1 b1 a2 b2
          go_wp2_with fail
          refine hcl.out.mono ?_
          clear hcl
          rintro z w5 ⟨rfl, x5, g5, L5, h5, hP5⟩
          replace h5 := Lib.hid h5
          replace hP5 := Lib.hid hP5
          go_wp2_with fail
          go_meet
          exact ⟨_, _, _, h5.out, hP5.out⟩
        have b3 : (d == 3) = false := beq_eq_false_iff_ne.2 a3
        by_cases a4 : d = 4
        · subst a4
          have hcl := Lib.hid (EWP.Retire_nil hE1.out)
          clear a0 b0 a1 b1 a2 b2 a3 b3
          go_wp2_with fail
          refine hcl.out.mono ?_
          clear hcl
          rintro z w5 ⟨rfl, rfl⟩
          go_wp2_with fail
          go_meet
          exact ⟨_, _, _, hE1.out, hP.out.more⟩
        · have b4 : (d == 4) = false := beq_eq_false_iff_ne.2 a4
          clear a0 a1 a2 a3 a4
          go_wp2_with fail
          go_meet
          exact ⟨_, _, _, hE1.out, hP.out.more⟩
      case rest =>
        obtain ⟨x2, g2, L2, h2, hP2⟩ := hcut
        clear hbb hC hD hE1 hP hbox hPl hRl z0 z1 z2 z3 c0 c1 c4 cl bN bS bA bL
        obtain ⟨ra2, rc2, aa2, ac2, ho⟩ := EWP.wopen h2
        have c0 := ho.c0
        have c1 := ho.c1
        have cl := ho.lt
        clear ho
        have bN := hP2.bN
        have bS := hP2.bS
        have bL := hP2.bL
        have hcl := Lib.hid (EW.Pinned (clo_plays B m x2.bx) h2 hP2.wfS (by omega))
        replace hP2 := Lib.hid hP2
        clear h2
        go_wp2_with fail
        refine hcl.out.mono ?_
        clear hcl
        rintro z w5 ⟨pa, pc, rfl, hrow, h5, hb5⟩
        replace h5 : EWP B m w w5 x2 g2 false L2 := h5
        clear hb5 c0 c1 cl
        obtain ⟨ra3, rc3, aa3, ac3, ho⟩ := EWP.wopen h5
        have c0 := ho.c0
        have c1 := ho.c1
        have cl := ho.lt
        clear ho
        obtain ⟨O2, hJ, _⟩ := EWP.doc h5
        obtain ⟨la, lc, e1, wl, _⟩ := hJ.entry
        obtain ⟨pv, e0, hprow, _⟩ := hJ.pin
        rw [← hP2.out.mat.len] at e1
        rw [hP2.out.mat.pin] at hprow
        obtain ⟨qa, qc, rfl⟩ := hprow.shape
        have hcw : Hid (∀ n, Calls Try.prog 16 #[.pointer (some ⟨B.e, 0, none⟩)] (w5.drewN n) fun z w' => z = .returned (.int .i64 L2.length) ∧ w' = w5.drewN n) := Lib.hid (fun n => (EWP.Waiting (EW.below (clo_plays B m x2.bx) h5 (w1 := w5.drewN n) ⟨rfl, rfl, rfl, Nat.le_refl _, fun _ _ => rfl⟩)).mono (fun _ _ ⟨h1, h2⟩ => ⟨h1, h2.symm⟩))
        have hrl : (rising g2.S).length ≤ 20000 := by rw [rising_len]; omega
        replace h5 := Lib.hid h5
        replace hrow := Lib.hid hrow
        replace hprow := Lib.hid hprow
        clear hJ
        generalize hM : rising g2.S = M at *
        replace hM := Lib.hid hM
        go_wp2_with fail
        go_quiet ((go_at_call 16; exact Calls.quiet_of_same (hcw.out _)))
        have hQ : QW B m w wc.heap.size x2 g2 L2 (.slice pa M.length pc) (.slice qa M.length qc) M (w5.drewN nq) := QW.below (w := w5) ⟨h5.out, hrow.out, hprow.out, c1, e0⟩ ⟨rfl, rfl, rfl, Nat.le_refl _, fun _ _ => rfl⟩
        replace hQ := Lib.hid hQ
        clear h5 hrow hprow c0 c1 cl e0 e1 wl hcw
        generalize w5.drewN nq = w6 at *
        go_wp2_with fail
        go_loopg [7] M.length (fun gk iv wx => ∃ j : Nat, gk = M.length - j ∧ j ≤ M.length ∧ iv = .int .i64 j ∧ QW B m w wc.heap.size x2 g2 L2 (.slice pa M.length pc) (.slice qa M.length qc) M wx)
        case atStart => exact ⟨0, rfl, Nat.zero_le _, rfl, hQ.out⟩
        case round =>
          obtain ⟨j, rfl, hj, rfl, hQ7⟩ := hrel
          clear hQ
          by_cases hlt7 : j < M.length
          · obtain ⟨z, hz⟩ : ∃ z, M[j]? = some z := ⟨_, List.getElem?_eq_getElem hlt7⟩
            obtain ⟨pb, pc', pe, _, _, pl, _, _, _, pcell⟩ := hQ7.pr.at hz
            obtain ⟨qb, qc', qe, _, _, ql, _, _, _, qcell⟩ := hQ7.qr.at hz
            have g0 := pcell 0 _ rfl
            have g1 := qcell 0 _ rfl
            injection pe with pe _ pe2
            injection qe with qe _ qe2
            subst pe qe pe2 qe2
            rw [Nat.mul_one, Nat.add_zero] at g0 g1
            have c1 := hQ7.c1
            have e0 := hQ7.e0
            have cl := block_lt_of_cell c1
            have el := block_lt_of_cell e0
            replace hQ7 := Lib.hid hQ7
            replace hz := Lib.hid hz
            clear pcell qcell
            go_wp2_with fail
            go_quiet (fail)
            go_wp2_with fail
            go_roundg (M.length - (j + 1))
            case measure => omega
            case rel => exact ⟨j + 1, rfl, by omega, by go_num, hQ7.out.below ⟨rfl, rfl, rfl, Nat.le_refl _, fun _ _ => rfl⟩⟩
          · obtain rfl : j = M.length := by omega
            replace hQ7 := Lib.hid hQ7
            go_wp2_with fail
            go_roundg (len - (k + 1))
            case measure => omega
            case rel => exact ⟨k + 1, rfl, by omega, by go_num, x2, g2, L2, hQ7.out.ew, hP2.out⟩
    · obtain rfl : k = len := by omega
      replace hE := Lib.hid (EW.bel hE)
      go_wp2_with fail
      go_ret
      exact ⟨rfl, hE.out⟩
end Go.Proofs.Ytidiefcgepllmaa
