/- The contracts of a B-link tree's Get and Next, whatever the visits write. -/
import Derived.Test.YtlhobbfncjjeaaaBkReadLf
namespace Go.Proofs.Ytlhobbfncjjeaaa
open Go.RowKit
section
variable {σ : Type} {V : Vis σ} {w0 : World} {t f : Nat} {fi ca : Array Value} {rs : List Nat} {Inv : σ → World → (Nat → Nat) → Prop} {s : σ} {w : World} {ρ : Nat → Nat}
/-- What Get leaves. -/
def VGet (V : Vis σ) (rs : List Nat) (Inv : σ → World → (Nat → Nat) → Prop) (w : World) (ρ : Nat → Nat) (key : Str) (e : Ending) (w' : World) : Prop :=
  ∃ s' ρ', e = .returned (.tuple #[.string ((cget (content (V.Ls s')) key).getD s0), .bool (cget (content (V.Ls s')) key).isSome, .bool false]) ∧ content (V.Ls s') ∈ V.ms s' ∧ Inv s' w' ρ' ∧ RU rs w w' ρ ρ'
set_option maxRecDepth 100000 in
theorem vis_get (hV : VisOK V) (hW : VisW V w0 t f fi ca rs Inv) (hI : Inv s w ρ) (key : Str) :
    Calls Try.prog 14 #[.pointer (some ⟨t, 0, none⟩), .string key, .func (.func f) fi ca] w (VGet V rs Inv w ρ key) := by
  obtain ⟨_, _, P, gens, free, D, rt, i, d, r, size, hB, hT⟩ := hW.tree s w ρ hI
  obtain ⟨c0, c1, c2, c3, c4, c5, hq⟩ := hT.cells
  have h00 := hB.ro.bel.size
  have hn := none_ok c1
  have hLf := Lib.hid (vis_leaf hV hW hI key)
  have hWh := Lib.hid hW
  clear hV hW hI hB hT
  go_enter Try.func14, Try.ntmps14
  go_wp2_with fail
  refine hn.mono ?_
  rintro e w1 ⟨rfl, rfl⟩
  go_wp2_with fail
  refine hLf.out.mono ?_
  clear hLf hn
  rintro e w2 ⟨s2, ρ2, hh, lo, n, A, B, qka, qva, qha, qkc, qvc, qhc, rfl, hnf, hQ, hc, hI2, hR2⟩
  obtain ⟨hsn2, hms, P, gens, free, D, rt, i, d, r', size, hB2, hT2⟩ := hWh.out.tree s2 w2 ρ2 hI2
  have hks : n.keys.length ≤ 1000 := by have := hsn2.slim 0 _ hQ.at'.lev (hh, n) (by simp); simp only at this; omega
  have hg := hQ.at'.get hsn2.tow hQ.low hc
  have hlf : n.leaf = true := hQ.at'.lf
  have hvl := (hQ.at'.ok.lf hlf).1
  have hold : Hid (hasK key n.keys = true → n.vals[cut key n.keys]? = some (n.old key)) := Lib.hid fun hr => by
    have hlt := (List.getElem?_eq_some_iff.1 (hasK_iff.1 hr)).1
    unfold BN.old
    rw [if_pos hr, List.getD_eq_getElem?_getD, List.getElem?_eq_getElem (by omega)]
    rfl
  obtain ⟨od, hod⟩ : ∃ od, od = n.old key := ⟨_, rfl⟩
  rw [← hod] at hold hg
  clear hod
  have hfin : Hid (∀ W, Below w2.heap.size w2 W → VGet V rs Inv w ρ key (.returned (.tuple #[.string ((if hasK key n.keys then some od else none).getD s0), .bool (if hasK key n.keys then some od else none).isSome, .bool false])) W) := Lib.hid fun W hW => by
    obtain ⟨a1, a2, _⟩ := hWh.out.step hI2 hR2 h00 (S := []) (by simp) hW (Upd.refl _ _)
    exact ⟨s2, ρ2, by rw [hg], hms, a1, a2⟩
  have hF := Lib.hid fun W (hW : Below w2.heap.size w2 W) => nFind_any n.leaf qka n.keys.length qkc qva n.vals.length qvc qha n.kids.length qhc n.high n.bnd n.next.1 n.next.2 n.keys key W (hnf.1.1.below hW) rfl
  have hV := Lib.hid fun (hr : hasK key n.keys = true) => hnf.1.2.1.str (by have := hvl; have := (List.getElem?_eq_some_iff.1 (hasK_iff.1 hr)).1; omega)
  have hcl := cut_le key n.keys
  replace hvl := Lib.hid hvl
  clear hnf hQ hI2 hR2 hB2 hT2 hsn2 hms hg hlf
  obtain ⟨lf, K, V, H, hi, bd, nx⟩ := n
  simp only at hF hV hold hks hvl hcl hfin ⊢
  have hA : Below w2.heap.size w2 (w2.alloc (.cells #[.bool lf, .slice qka K.length qkc, .slice qva V.length qvc, .slice qha H.length qhc, .string hi, .bool bd, .int .i64 nx.1, .int .u64 nx.2] 89)) := (Below.refl _ _).alloc (Nat.le_refl _) _
  have hT := heap_alloc_new w2 (.cells #[.bool lf, .slice qka K.length qkc, .slice qva V.length qvc, .slice qha H.length qhc, .string hi, .bool bd, .int .i64 nx.1, .int .u64 nx.2] 89)
  obtain ⟨c0, c1, c2, c3, c4, c5, c6, c7⟩ := node_cells _ _ _ _ _ _ _ _ _ _ _ _ _ _ hT
  replace hA := Lib.hid hA
  replace hT := Lib.hid hT
  go_wp2_with fail
  refine (hF.out _ hA.out).mono ?_
  clear hF
  rintro e w3 ⟨rfl, hb3⟩
  have hT3 := Below.heap' hb3 hT.out
  have hB3 := hA.out.trans (hb3.mono hA.out.size)
  clear c0 c1 c2 c3 c4 c5 c6 c7 hb3 hA hT
  obtain ⟨c0, c1, c2, c3, c4, c5, c6, c7⟩ := node_cells _ _ _ _ _ _ _ _ _ _ _ _ _ _ hT3
  have hq3 := heap_lt hT3
  replace hT3 := Lib.hid hT3
  cases hr : hasK key K with
  | true =>
    rw [hr] at hfin
    obtain ⟨b, o, rfl, hbw, hvc, hvc63, hvat⟩ := hV.out hr
    have hlt : cut key K < V.length := (List.getElem?_eq_some_iff.1 (hold.out hr)).1
    have g1 := keep hB3 (hvat _ _ (hold.out hr))
    clear hvat hcl
    replace hB3 := Lib.hid hB3
    generalize cut key K = ix at *
    go_wp2_with fail
    go_ret3
    exact hfin.out _ hB3.out
  | false =>
    rw [hr] at hfin
    replace hB3 := Lib.hid hB3
    clear hV
    go_wp2_with fail
    go_ret3
    exact hfin.out _ hB3.out
/-- What Next leaves. -/
def VNext (V : Vis σ) (rs : List Nat) (Inv : σ → World → (Nat → Nat) → Prop) (s : σ) (w : World) (ρ : Nat → Nat) (key : Str) (after : Bool) (e : Ending) (w' : World) : Prop :=
  ∃ s' ρ' o, e = .returned (nextV o) ∧ NextOK V s key after s' o ∧ Inv s' w' ρ' ∧ RU rs w w' ρ ρ'
/-- What a look to the right leaves, on Next's way. -/
def VGo (V : Vis σ) (rs : List Nat) (Inv : σ → World → (Nat → Nat) → Prop) (s : σ) (w : World) (ρ : Nat → Nat) (key : Str) (after : Bool) (b M : Nat) (h : Hd) (lo : Str) (W : World) (e : Ending) (W' : World) : Prop :=
  ∃ s2 ρ2 n A B M2, ∃ qka qva qha qkc qvc qhc, e = .returned (.tuple #[.agg #[.bool n.leaf, .slice qka n.keys.length qkc, .slice qva n.vals.length qvc, .slice qha n.kids.length qhc, .string n.high, .bool n.bnd, .int .i64 n.next.1, .int .u64 n.next.2], .bool true]) ∧ NextP V s key after s2 h lo n A B ∧ M2 = msr V s2 0 B ∧ M2 < M ∧ NodeF W' ρ2 n qka qva qha qkc qvc qhc ∧ Inv s2 W' ρ2 ∧ RU rs w W' ρ ρ2 ∧ ρ2 b = 0 ∧ W'.heap[b]? = W.heap[b]?
set_option maxRecDepth 100000 in
set_option maxHeartbeats 1000000 in
theorem vis_next (hV : VisOK V) (hW : VisW V w0 t f fi ca rs Inv) (hI : Inv s w ρ) (key : Str) (after : Bool) :
    Calls Try.prog 17 #[.pointer (some ⟨t, 0, none⟩), .string key, .bool after, .func (.func f) fi ca] w (VNext V rs Inv s w ρ key after) := by
  obtain ⟨_, _, P, gens, free, D, rt, i, d, r, size, hB, hT⟩ := hW.tree s w ρ hI
  obtain ⟨c0, c1, c2, c3, c4, c5, hq⟩ := hT.cells
  have h00 := hB.ro.bel.size
  have hn := none_ok c1
  have hLf := Lib.hid (vis_leaf hV hW hI key)
  have hWh := Lib.hid hW
  have hVh := Lib.hid hV
  clear hV hW hI hB hT
  go_enter Try.func17, Try.ntmps17
  go_wp2_with fail
  refine hn.mono ?_
  rintro e w1 ⟨rfl, rfl⟩
  go_wp2_with fail
  refine hLf.out.mono ?_
  clear hLf hn
  rintro e w2 ⟨s2, ρ2, hh, lo, n, A, B, qka, qva, qha, qkc, qvc, qhc, rfl, hnf, hQ, hc, hI2, hR2⟩
  have hq2 := hR2.size
  have hms := (hWh.out.tree s2 w2 ρ2 hI2).2.1
  have hP := hQ.next (after := after) hms hc
  have hz := (hWh.out.ro hI2).far w2.heap.size (Nat.le_refl _)
  have hT0 := heap_alloc_new w2 (.cells #[.bool n.leaf, .slice qka n.keys.length qkc, .slice qva n.vals.length qvc, .slice qha n.kids.length qhc, .string n.high, .bool n.bnd, .int .i64 n.next.1, .int .u64 n.next.2] 89)
  have hst := hWh.out.step hI2 hR2 h00 (S := []) (by simp) (W := w2.alloc (.cells #[.bool n.leaf, .slice qka n.keys.length qkc, .slice qva n.vals.length qvc, .slice qha n.kids.length qhc, .string n.high, .bool n.bnd, .int .i64 n.next.1, .int .u64 n.next.2] 89)) (((Below.refl _ _).alloc (Nat.le_refl _) _)) (Upd.refl _ _)
  have hnf2 := hst.2.2 n qka qva qha qkc qvc qhc hnf
  replace hst := Lib.hid (And.intro hst.1 hst.2.1)
  replace hnf2 := Lib.hid hnf2
  replace hT0 := Lib.hid hT0
  replace hP := Lib.hid hP
  replace hz := Lib.hid hz
  clear hnf hQ hc hI2 hR2 hms
  go_wp2_with fail
  go_loopg [13] (msr V s2 0 B) (fun gk v wr => ∃ (s1 : σ) (ρ1 : Nat → Nat) (h : Hd) (lo : Str) (n : BN) (A B : Lev), ∃ qka qva qha qkc qvc qhc, gk = msr V s1 0 B ∧ v = .bool true ∧ NextP V s key after s1 h lo n A B ∧ NodeF wr ρ1 n qka qva qha qkc qvc qhc ∧ Inv s1 wr ρ1 ∧ RU rs w wr ρ ρ1 ∧ ρ1 w2.heap.size = 0 ∧ wr.heap[w2.heap.size]? = some (.cells #[.bool n.leaf, .slice qka n.keys.length qkc, .slice qva n.vals.length qvc, .slice qha n.kids.length qhc, .string n.high, .bool n.bnd, .int .i64 n.next.1, .int .u64 n.next.2] 89))
  case atStart => exact ⟨s2, ρ2, hh, lo, n, A, B, qka, qva, qha, qkc, qvc, qhc, rfl, rfl, hP.out, hnf2.out, hst.out.1, hst.out.2, hz.out, hT0.out⟩
  case round =>
    clear hT0 hst hnf2 hP hz
    obtain ⟨s1, ρ1, hh1, lo1, n, A1, B1, qka3, qva3, qha3, qkc3, qvc3, qhc3, rfl, rfl, hP, hnf, hI1, hR1, hr1, hT⟩ := hrel
    obtain ⟨hsn1, _, _⟩ := hWh.out.tree s1 wr ρ1 hI1
    have hlf : n.leaf = true := hP.at'.lf
    have hkx : n.keys.length ≤ 1000 := by have := hsn1.slim 0 _ hP.at'.lev (hh1, n) (by simp); simp only at this; omega
    have hvl := (hP.at'.ok.lf hlf).1
    have hpl : place key after n.keys = cut key n.keys + (if (hasK key n.keys && after) = true then 1 else 0) := by
      unfold place
      cases after
      · simp
      · simp [cutE_eq hP.at'.ok.rise]
    have hple : place key after n.keys ≤ n.keys.length := place_le
    have hF := Lib.hid fun W (hW : Below wr.heap.size wr W) => nFind_any n.leaf qka3 n.keys.length qkc3 qva3 n.vals.length qvc3 qha3 n.kids.length qhc3 n.high n.bnd n.next.1 n.next.2 n.keys key W (hnf.1.1.below hW) rfl
    have hstp := Lib.hid fun W (hb : Below wr.heap.size wr W) => hWh.out.step hI1 hR1 h00 (S := []) (by simp) hb (Upd.refl _ _)
    have hfd : Hid (∀ k v, n.keys[place key after n.keys]? = some k → n.vals[place key after n.keys]? = some v → ∀ W, Below wr.heap.size wr W → VNext V rs Inv s w ρ key after (.returned (nextV (some (k, v)))) W) := Lib.hid fun k v h1 h2 W hb => ⟨s1, ρ1, _, rfl, hP.found hsn1 h1 h2, (hstp.out W hb).1, (hstp.out W hb).2.1⟩
    have hno : Hid (place key after n.keys = n.keys.length → n.bnd = false → ∀ W, Below wr.heap.size wr W → VNext V rs Inv s w ρ key after (.returned (nextV none)) W) := Lib.hid fun h1 h2 W hb => ⟨s1, ρ1, _, rfl, hP.none hsn1 h1 h2, (hstp.out W hb).1, (hstp.out W hb).2.1⟩
    obtain ⟨M, hM⟩ : ∃ M, M = msr V s1 0 B1 := ⟨_, rfl⟩
    have hbq := heap_lt hT
    have hgo : Hid (place key after n.keys = n.keys.length → n.bnd = true → ∀ W, Below wr.heap.size wr W → Calls Try.prog 46 #[.pointer (some ⟨t, 0, none⟩), .agg #[.int .i64 n.next.1, .int .u64 n.next.2], .func (.func f) fi ca] W (VGo V rs Inv s w ρ key after w2.heap.size M n.next n.high W)) := Lib.hid fun h1 h2 W hb => by
      obtain ⟨y, A', B', g1, g2, g3, g4⟩ := hP.go hsn1 h1 h2
      obtain ⟨i1, i2, _⟩ := hstp.out W hb
      rw [g1]
      refine (vis_look hVh.out hWh.out i1 g2.has).mono ?_
      rintro e W' ⟨s3, ρ3, k1, k2, k3, k4⟩
      obtain ⟨hsn3, _, _⟩ := hWh.out.tree s3 W' ρ3 k2
      obtain ⟨n', A2, B2, l1, l2, l3⟩ := look_in hVh.out k1 hsn3 g2
      obtain ⟨qka4, qva4, qha4, qkc4, qvc4, qhc4, m1, m2⟩ := k4 n' l1.memF
      have hbW : w2.heap.size < W.heap.size := Nat.lt_of_lt_of_le hbq hb.size
      exact ⟨s3, ρ3, n', A2, B2, _, qka4, qva4, qha4, qkc4, qvc4, qhc4, m1, g4 s3 n' A2 B2 hVh.out k1 hsn3 l1 (fun he => (l3 he).1), rfl, by rw [hM]; exact Nat.lt_of_le_of_lt l2 g3, m2, k2, i2.trans k3, by rw [k3.role _ hbW]; exact hr1, k3.block _ hbW (by rw [hr1]; exact hWh.out.r0)⟩
    have hks := Lib.hid hnf.1
    replace hM := Lib.hid hM
    clear hP hnf hI1 hR1 hr1 hsn1 hstp
    obtain ⟨lf, K, V, H, hi, bd, nx⟩ := n
    simp only at hF hlf hkx hvl hT hpl hple hfd hno hgo hks
    subst hlf
    obtain ⟨p, hp⟩ : ∃ p, p = place key after K := ⟨_, rfl⟩
    rw [← hp] at hpl hple hfd hno hgo
    obtain ⟨c0, c1, c2, c3, c4, c5, c6, c7⟩ := node_cells _ _ _ _ _ _ _ _ _ _ _ _ _ _ hT
    have hqT := heap_lt hT
    have hcl := cut_le key K
    replace hvl := Lib.hid hvl
    replace hT := Lib.hid hT
    replace hpl := Lib.hid hpl
    clear hp
    generalize hasK key K = hs at *
    go_upto_region 6 with (go_at_call 44; refine (hF.out _ (Below.refl _ _)).mono ?_; rintro e w3 ⟨rfl, hb3⟩)
    have hT3 := Below.heap' hb3 hT.out
    clear hF hT c0 c1 c2 c3 c4 c5 c6 c7 hqT hbq
    obtain ⟨c0, c1, c2, c3, c4, c5, c6, c7⟩ := node_cells _ _ _ _ _ _ _ _ _ _ _ _ _ _ hT3
    have hqT := heap_lt hT3
    replace hT3 := Lib.hid hT3
    replace hb3 := Lib.hid hb3
    have hw1 : IntKind.i64.wrap ((cut key K : Nat) + 1 : Int) = (cut key K : Nat) + 1 := IntWalk.i64_in _ (by omega)
    have he : Hid ((if (hs && after) = true then ((cut key K : Nat) : Int) + 1 else ((cut key K : Nat) : Int)) = (p : Int)) := Lib.hid (by
      have := hpl.out
      split
      · rename_i h
        rw [if_pos h] at this; omega
      · rename_i h
        rw [if_neg h] at this; omega)
    clear hpl hcl
    generalize cut key K = cx at *
    cases hs <;> cases after
    all_goals
      have e1 := he.out
      simp only [Bool.and_self, Bool.and_false, Bool.and_true, Bool.false_eq_true, if_true, if_false] at e1
      rcases Nat.lt_or_ge p K.length with hlt | hge
      · obtain ⟨k, v, hk1, hv1, hz1⟩ := pair_at (i := p) hvl.out hlt
        obtain ⟨b, o, rfl, _, hkc, hkc63, hkat⟩ := hks.out.1.str (by show 0 < K.length; omega)
        obtain ⟨b', o', rfl, _, hvc, hvc63, hvat⟩ := hks.out.2.1.str (by show 0 < V.length; have := hvl.out; omega)
        have g1 := keep hb3.out (hkat _ _ hk1)
        have g2 := keep hb3.out (hvat _ _ hv1)
        have hpv : p < V.length := by have := hvl.out; omega
        have hfd2 := Lib.hid (hfd.out k v hk1 hv1)
        clear hkat hvat hk1 hv1 hz1
        go_wp2_with fail
        go_quiet (fail)
        go_wp2_with fail
        refine bodyPost_ret (v := .tuple #[.string k, .string v, .bool true, .bool false]) (by simp [results, Try.results17, go_sem]) rfl (hfd2.out _ (below_drewN hb3.out _))
      · obtain rfl : p = K.length := by omega
        cases bd with
        | false =>
          go_wp2_with fail
          refine bodyPost_ret (v := .tuple #[.string ⟨#[]⟩, .string ⟨#[]⟩, .bool false, .bool false]) (by simp [results, Try.results17, go_sem]) rfl (hno.out trivial trivial _ hb3.out)
        | true =>
          have hl5 := Lib.hid (hgo.out rfl rfl w3 hb3.out)
          go_wp2_with fail
          refine hl5.out.mono ?_
          clear hl5
          rintro e w5 ⟨s5, ρ5, n5, A5, B5, M5, qka5, qva5, qha5, qkc5, qvc5, qhc5, rfl, q1, q2, q3, q4, q5, q6, q7, q8⟩
          have hT5 := q8.trans hT3.out
          have y := fun k => frozen_of_heap hT5 k
          obtain ⟨f0, f1, f2, f3, f4, f5, f6, f7⟩ := And.intro (y 0) (And.intro (y 1) (And.intro (y 2) (And.intro (y 3) (And.intro (y 4) (And.intro (y 5) (And.intro (y 6) (y 7)))))))
          clear c0 c1 c2 c3 c4 c5 c6 c7 y
          obtain ⟨c0, c1, c2, c3, c4, c5, c6, c7⟩ := node_cells _ _ _ _ _ _ _ _ _ _ _ _ _ _ hT5
          have hqT5 := heap_lt hT5
          replace hT5 := Lib.hid hT5
          replace q1 := Lib.hid q1
          replace q2 := Lib.hid q2
          have q9 := Lib.hid (And.intro q4 (And.intro q5 (And.intro q6 q7)))
          clear q4 q5 q6 q7 q8
          go_wp2_with fail
          go_roundg M5
          case rel =>
            obtain ⟨hst, hus⟩ := node_stored (n2 := n5) (qka2 := qka5) (qva2 := qva5) (qha2 := qha5) (qkc2 := qkc5) (qvc2 := qvc5) (qhc2 := qhc5) hT5.out
            obtain ⟨a1, a2, a3⟩ := hWh.out.step q9.out.2.1 q9.out.2.2.1 h00 (S := [w2.heap.size]) (fun k hk => by simp only [List.mem_singleton] at hk; subst hk; exact ⟨hq2, q9.out.2.2.2⟩) (Below.refl _ _) hus
            exact ⟨s5, ρ5, nx, hi, n5, A5, B5, qka5, qva5, qha5, qkc5, qvc5, qhc5, q2.out, rfl, q1.out, a3 _ _ _ _ _ _ _ q9.out.1, a1, a2, q9.out.2.2.2, hst⟩
          case measure => have := hM.out; omega
end
end Go.Proofs.Ytlhobbfncjjeaaa
