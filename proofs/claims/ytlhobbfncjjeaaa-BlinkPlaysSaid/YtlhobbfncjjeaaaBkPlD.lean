/- BlinkPlays: the method 'put' of the law's world. BlinkPlays: the method 'does' of the law's world, act by act. -/
import Derived.Test.YtlhobbfncjjeaaaBkPx
import Derived.Deep.RegionLaw
namespace Go.Proofs.Ytlhobbfncjjeaaa
open Go.RowKit
abbrev wobj (xb : Nat) : Value := .pointer (some ⟨xb, 0, none⟩)
def actV (x : A10) : Value := .agg #[.int .i64 x.1, .string x.2.1, .string x.2.2.1, .bool x.2.2.2]
/-- What an act leaves: the law goes on. -/
def PEnd (w0 : World) (xb p t ai : Nat) (K : List (Nat × Obj)) (c0 k : Nat) (e : Ending) (w' : World) : Prop := e = .returned (.bool true) ∧ ∃ C dr, PY w0 w' xb p t ai K c0 k C C dr dr
theorem act_box {w : World} {b : Nat} {x : A10} (h : w.heap[b]? = some (.cells #[.int .i64 x.1, .string x.2.1, .string x.2.2.1, .bool x.2.2.2] 57)) :
    w.cell? ⟨b, 0, none⟩ = some (.int .i64 x.1) ∧ w.cell? ⟨b, 1, none⟩ = some (.string x.2.1) ∧ w.cell? ⟨b, 2, none⟩ = some (.string x.2.2.1) ∧ w.cell? ⟨b, 3, none⟩ = some (.bool x.2.2.2) ∧ b < w.heap.size := by
  refine ⟨?_, ?_, ?_, ?_, heap_lt h⟩ <;> rw [cell_of_heap h] <;> rfl
/-- What the document's functions answer to the law's pairs. -/
structure RefC (w : World) (wa : Option Addr) (wc cl : Nat) (C : Cont) : Prop where
  get : ∀ key W, Below w.heap.size w W → Calls Try.prog 45 #[.slice wa cl wc, .string key] W fun e w' => e = .returned (.tuple #[.string ((cget C key).getD s0), .bool (cget C key).isSome]) ∧ Below W.heap.size W w'
  put : ∀ key value W, Below w.heap.size w W → key.size ≤ maxLen → Calls Try.prog 41 #[.slice wa cl wc, .string key, .string value] W (PairsEnd W (cput C key value))
  del : ∀ key W, Below w.heap.size w W → Calls Try.prog 40 #[.slice wa cl wc, .string key] W (PairsEnd W (cdel C key))
  next : ∀ key after W, Below w.heap.size w W → key.size ≤ maxLen → Calls Try.prog 62 #[.slice wa cl wc, .string key, .bool after] W fun e w' => e = .returned (pairV (cnext C key after)) ∧ Below W.heap.size W w'
theorem PY.view {w0 w : World} {xb p t ai c0 k : Nat} {K : List (Nat × Obj)} {C T : Cont} {dr xd : Bool} (h : PY w0 w xb p t ai K c0 k C T dr xd) (hk : k ≤ 301) : ∃ oa oc hn wa wc cl, (w.cell? ⟨xb, 0, none⟩ = some (.pointer (some ⟨p, 0, none⟩)) ∧ w.cell? ⟨xb, 1, none⟩ = some (.pointer (some ⟨t, 0, none⟩)) ∧ w.cell? ⟨xb, 2, none⟩ = some (.pointer (some ⟨ai, 0, none⟩)) ∧ w.cell? ⟨xb, 3, none⟩ = some (.slice oa hn oc) ∧ w.cell? ⟨xb, 4, none⟩ = some (.slice wa cl wc) ∧ w.cell? ⟨xb, 5, none⟩ = some (.bool xd) ∧ xb < w.heap.size) ∧ (w.frozen? ⟨xb, 3, none⟩ = false ∧ w.frozen? ⟨xb, 4, none⟩ = false ∧ w.frozen? ⟨xb, 5, none⟩ = false) ∧ Hid (RefC w wa wc cl C) := by
  obtain ⟨oa, oc, hn, wa, wc, hc, hf, hA⟩ := h.cells
  have hs : CSort C ∧ C.length ≤ 100000 := by
    obtain ⟨ρ, P, gens, free, D, d, dI, oa, oc, H, wa, wc, hx⟩ := h
    have := hx.cc.2
    exact ⟨hx.cc.1, by omega⟩
  refine ⟨oa, oc, hn, wa, wc, C.length, hc, ⟨hf 3, hf 4, hf 5⟩, Lib.hid ⟨fun key W hW => ?_, fun key value W hW hz => ?_, fun key W hW => ?_, fun key after W hW hz => ?_⟩⟩
  · refine (r9get_any wa wc C key W (hA.below hW) hs.2).mono ?_
    rintro e w' ⟨rfl, rfl⟩
    exact ⟨rfl, Below.refl _ _⟩
  · exact r9put_any wa wc C key value W (hA.below hW) hs.1 hs.2 hz
  · exact r9del_any wa wc C key W (hA.below hW) hs.2
  · exact r10next_any wa wc C key after W (hA.below hW) hs.2 hz
section
variable {w0 w : World} {xb p t ai c0 k : Nat} {K : List (Nat × Obj)} {C : Cont}
set_option maxRecDepth 100000 in
set_option maxHeartbeats 4000000 in
theorem put10_live (h : PY w0 w xb p t ai K c0 k C C false false) (hk : k < 300) (x : A10) (hks : x.2.1.size ≤ maxLen) :
    Calls Try.prog 61 #[wobj xb, actV x] w (PEnd w0 xb p t ai K c0 (k + 1)) := by
  obtain ⟨dd, x1, x2, aft⟩ := x
  unfold wobj actV
  simp only at hks ⊢
  go_enter Try.func61, Try.ntmps61
  go_upto_region 1 with fail
  have hY := h.alloc (.cells #[.int .i64 dd, .string x1, .string x2, .bool aft] 57)
  generalize w.alloc (.cells #[.int .i64 dd, .string x1, .string x2, .bool aft] 57) = W0 at *
  generalize w.heap.size = bx at *
  obtain ⟨K2, hK2⟩ : ∃ K2, K2 = K ++ [(bx, Obj.cells #[.int .i64 dd, .string x1, .string x2, .bool aft] 57)] := ⟨_, rfl⟩
  rw [← hK2] at hY
  have hfin : Hid (∀ W C' k', PY w0 W xb p t ai K2 c0 k' C' C' false false → k' ≤ k + 1 → ∃ C' dr, PY w0 W xb p t ai K c0 (k + 1) C' C' dr dr) := Lib.hid fun W C' k' hW hk' => ⟨C', false, (hW.keepK (fun y hy => by rw [hK2]; simp [hy])).up hk'⟩
  have hkx : Hid (∀ W k' C' T', PY w0 W xb p t ai K2 c0 k' C' T' false false → W.cell? ⟨bx, 0, none⟩ = some (.int .i64 dd) ∧ W.cell? ⟨bx, 1, none⟩ = some (.string x1) ∧ W.cell? ⟨bx, 2, none⟩ = some (.string x2) ∧ W.cell? ⟨bx, 3, none⟩ = some (.bool aft) ∧ bx < W.heap.size) := Lib.hid fun W k' C' T' hW => by
    have := hW.box (y := (bx, .cells #[.int .i64 dd, .string x1, .string x2, .bool aft] 57)) (by rw [hK2]; simp)
    exact act_box (x := (dd, x1, x2, aft)) this
  clear hK2 h
  obtain ⟨k0, k1, k2, k3, hqb⟩ := hkx.out _ _ _ _ hY
  obtain ⟨oa, oc, hn, wa, wcp, cl, ⟨c0', c1, c2, c3, c4, c5, hq⟩, ⟨f3, f4, f5⟩, hR⟩ := hY.view (by omega)
  have hG := Lib.hid (hR.out.get x1 _ (Below.refl _ _).drew)
  obtain ⟨gv, hgv⟩ : ∃ o, o = (cget C x1).getD s0 := ⟨_, rfl⟩
  obtain ⟨gb, hgb⟩ : ∃ o, o = (cget C x1).isSome := ⟨_, rfl⟩
  rw [← hgv, ← hgb] at hG
  replace hgv := Lib.hid hgv
  replace hgb := Lib.hid hgb
  replace hY := Lib.hid hY
  clear hR
  go_cut [5, 6] (fun v5 v6 wz => v5 = .string gv ∧ v6 = .bool gb ∧ PY w0 wz xb p t ai K2 c0 k C C false false)
  case first =>
    go_region_held3 (fun w' => w'.cell? ⟨xb, 4, none⟩ = some (.slice wa cl wcp) ∧ w'.cell? ⟨bx, 1, none⟩ = some (.string x1)) (first | exact ⟨c4, k1⟩ | exact ⟨j4, j1⟩ | go_keep) (first
      | (go_at_call 45; refine hG.out.mono ?_; rintro z w1 ⟨rfl, hb1⟩; have hbb := (Below.refl W0.heap.size W0).drew.trans hb1; have j4 := keep hbb c4; have j1 := keep hbb k1; have hY1 := Lib.hid (hY.out.below hbb); clear hb1 hbb))
    all_goals
      go_wp2_with fail
      go_meet
      exact ⟨rfl, rfl, hY1.out⟩
  case rest =>
    obtain ⟨rfl, rfl, hY1⟩ := hcut
    obtain ⟨w1, hw1⟩ : ∃ w1, w1 = wc := ⟨wc, rfl⟩
    subst hw1
    obtain ⟨fr, hFr, hPu⟩ := hY1.put (by omega) x1 x2
    clear hY k0 k1 k2 k3 hqb c0' c1 c2 c3 c4 c5 hq f3 f4 f5 hG
    obtain ⟨k0, k1, k2, k3, hqb⟩ := hkx.out _ _ _ _ hY1
    obtain ⟨oa, oc, hn, wa, wcp, cl, ⟨c0', c1, c2, c3, c4, c5, hq⟩, ⟨f3, f4, f5⟩, hR⟩ := hY1.view (by omega)
    have hF1 := Lib.hid (hFr w1 (Below.refl _ _))
    have hP := Lib.hid (hPu _ (Below.refl w1.heap.size w1).drew)
    replace hFr := Lib.hid hFr
    replace hY1 := Lib.hid hY1
    clear hPu hR
    go_wp2_with fail
    refine hF1.out.mono ?_
    clear hF1
    rintro z w1' ⟨rfl, rfl⟩
    go_upto_region 3 with fail
    go_cut [8, 9, 10] (fun v8 v9 v10 wz => (v8 = .string gv ∧ v9 = .bool gb ∧ v10 = .int .i64 0 ∧ PY w0 wz xb p t ai K2 c0 (k + 1) C (cput C x1 x2) false false) ∨ (gb = false ∧ fr < 20 ∧ v8 = .string s0 ∧ v9 = .bool false ∧ v10 = .int .i64 5 ∧ Below w1.heap.size w1 wz))
    case first =>
      go_region_held3 (fun w' => w'.cell? ⟨xb, 1, none⟩ = some (.pointer (some ⟨t, 0, none⟩)) ∧ w'.cell? ⟨bx, 1, none⟩ = some (.string x1) ∧ w'.cell? ⟨bx, 2, none⟩ = some (.string x2)) (first | exact ⟨c1, k1, k2⟩ | exact ⟨j0, j1, j2⟩ | go_keep) (first
        | (go_at_call 25; refine hP.out.mono ?_; rintro z w3 hz; obtain ⟨pv, pb, pe, rfl, ⟨j0, j1, j2⟩, hz2⟩ : ∃ (pv : Str) (pb : Bool) (pe : Int), z = .returned (.tuple #[.string pv, .bool pb, .int .i64 pe]) ∧ (w3.cell? ⟨xb, 1, none⟩ = some (.pointer (some ⟨t, 0, none⟩)) ∧ w3.cell? ⟨bx, 1, none⟩ = some (.string x1) ∧ w3.cell? ⟨bx, 2, none⟩ = some (.string x2)) ∧ Hid ((pv = gv ∧ pb = gb ∧ pe = 0 ∧ PY w0 w3 xb p t ai K2 c0 (k + 1) C (cput C x1 x2) false false) ∨ (gb = false ∧ fr < 20 ∧ pv = s0 ∧ pb = false ∧ pe = 5 ∧ Below w1.heap.size w1 w3)) := (by
            rcases hz with ⟨h1, h2⟩ | ⟨h1, h2, h3, h4⟩
            · obtain ⟨_, _, _, _, _, ⟨_, e1, _⟩, _⟩ := h2.cells
              obtain ⟨_, e2, e3, _⟩ := hkx.out _ _ _ _ h2
              exact ⟨_, _, _, h1, ⟨e1, e2, e3⟩, Lib.hid (.inl ⟨hgv.out.symm, hgb.out.symm, rfl, h2⟩)⟩
            · exact ⟨_, _, _, h3, ⟨keep h4 c1, keep h4 k1, keep h4 k2⟩, Lib.hid (.inr ⟨by rw [hgb.out]; exact h1, h2, rfl, rfl, rfl, h4⟩)⟩); clear hz))
      all_goals
        go_wp2_with fail
        go_meet
        rcases hz2.out with ⟨h1, h2, h3, h4⟩ | ⟨h1, h2, h3, h4, h5, h6⟩
        · exact .inl ⟨by rw [h1], by rw [h2], by rw [h3], h4⟩
        · exact .inr ⟨h1, h2, by rw [h3], by rw [h4], by rw [h5], h6⟩
    case rest =>
      obtain ⟨w2, hw2⟩ : ∃ w2, w2 = wc := ⟨wc, rfl⟩
      subst hw2
      clear hP k0 k1 k2 k3 hqb c0' c1 c2 c3 c4 c5 hq f3 f4 f5
      rcases hcut with ⟨rfl, rfl, rfl, hY2⟩ | ⟨hg0, hfr, rfl, rfl, rfl, hb2⟩
      · obtain ⟨k0, k1, k2, k3, hqb⟩ := hkx.out _ _ _ _ hY2
        obtain ⟨oa, oc, hn, wa, wcp, cl, ⟨c0', c1, c2, c3, c4, c5, hq⟩, ⟨f3, f4, f5⟩, hR⟩ := hY2.view (by omega)
        have hP := Lib.hid (hR.out.put x1 x2 _ (Below.refl _ _).drew hks)
        have hst : gv.toList == gv.toList := by simp
        have hY2h := Lib.hid hY2
        have hcs : Hid (CSort (cput C x1 x2) ∧ (cput C x1 x2).length ≤ k + 1) := Lib.hid (by
          obtain ⟨ρ, P, gens, free, D, d, dI, oa, oc, H, wa, wc, hx⟩ := hY2
          exact hx.ct)
        clear hY2 hR hY1 hFr
        go_upto_region 7 with fail
        go_cut [8] (fun v8 wz => v8 = .string gv ∧ PY w0 wz xb p t ai K2 c0 (k + 1) (cput C x1 x2) (cput C x1 x2) false false)
        case first =>
          go_region_with (go_at_call 41; refine hP.out.mono ?_; rintro z w5 ⟨a5, c5', rfl, hrow, hb5⟩; have hB5 := (Below.refl w2.heap.size w2).drew.trans hb5; have i4 := keep hB5 c4; have g4 := keepf hB5 c4 f4; have hq5 := Nat.lt_of_lt_of_le hq hB5.size; replace hrow := Lib.hid hrow; replace hB5 := Lib.hid hB5; clear hb5)
          all_goals
            go_wp2_with fail
            go_meet
            exact ⟨rfl, hY2h.out.setW hB5.out hrow.out hcs.out⟩
        case rest =>
          obtain ⟨rfl, hY5⟩ := hcut
          replace hY5 := Lib.hid hY5
          clear hP hY2h hcs k0 k1 k2 k3 hqb c0' c1 c2 c3 c4 c5 hq f3 f4 f5
          go_wp2_with fail
          go_ret
          exact ⟨by simp, hfin.out _ _ _ hY5.out (Nat.le_refl _)⟩
      · subst hg0
        have hY2 := hY1.out.below hb2
        obtain ⟨oa, oc, hn, wa, wcp, cl, ⟨c0', c1, c2, c3, c4, c5, hq⟩, ⟨f3, f4, f5⟩, hR⟩ := hY2.view (by omega)
        have hF2 := Lib.hid (hFr.out w2 hb2)
        have hlt : (fr : Int) < 20 := by omega
        have hlt2 : decide ((fr : Int) < 20) = true := decide_eq_true hlt
        replace hY2 := Lib.hid hY2
        clear hR hY1 hFr hb2
        go_wp2_with fail
        refine hF2.out.mono ?_
        clear hF2
        rintro z w2' ⟨rfl, rfl⟩
        go_wp2_with fail
        go_ret
        exact ⟨by simp, hfin.out _ _ _ hY2.out (by omega)⟩
set_option maxRecDepth 100000 in
set_option maxHeartbeats 4000000 in
theorem put10_gone (h : PY w0 w xb p t ai K c0 k C C true true) (hk : k < 300) (x : A10) :
    Calls Try.prog 61 #[wobj xb, actV x] w (PEnd w0 xb p t ai K c0 (k + 1)) := by
  obtain ⟨dd, x1, x2, aft⟩ := x
  unfold wobj actV
  simp only
  go_enter Try.func61, Try.ntmps61
  go_upto_region 1 with fail
  have hY := h.alloc (.cells #[.int .i64 dd, .string x1, .string x2, .bool aft] 57)
  generalize w.alloc (.cells #[.int .i64 dd, .string x1, .string x2, .bool aft] 57) = W0 at *
  generalize w.heap.size = bx at *
  obtain ⟨K2, hK2⟩ : ∃ K2, K2 = K ++ [(bx, Obj.cells #[.int .i64 dd, .string x1, .string x2, .bool aft] 57)] := ⟨_, rfl⟩
  rw [← hK2] at hY
  have hfin : Hid (∀ W C' k', PY w0 W xb p t ai K2 c0 k' C' C' true true → k' ≤ k + 1 → ∃ C' dr, PY w0 W xb p t ai K c0 (k + 1) C' C' dr dr) := Lib.hid fun W C' k' hW hk' => ⟨C', true, (hW.keepK (fun y hy => by rw [hK2]; simp [hy])).up hk'⟩
  have hkx : Hid (∀ W k' C' T', PY w0 W xb p t ai K2 c0 k' C' T' true true → W.cell? ⟨bx, 0, none⟩ = some (.int .i64 dd) ∧ W.cell? ⟨bx, 1, none⟩ = some (.string x1) ∧ W.cell? ⟨bx, 2, none⟩ = some (.string x2) ∧ W.cell? ⟨bx, 3, none⟩ = some (.bool aft) ∧ bx < W.heap.size) := Lib.hid fun W k' C' T' hW => by
    have := hW.box (y := (bx, .cells #[.int .i64 dd, .string x1, .string x2, .bool aft] 57)) (by rw [hK2]; simp)
    exact act_box (x := (dd, x1, x2, aft)) this
  clear hK2 h
  obtain ⟨k0, k1, k2, k3, hqb⟩ := hkx.out _ _ _ _ hY
  obtain ⟨oa, oc, hn, wa, wcp, cl, ⟨c0', c1, c2, c3, c4, c5, hq⟩, ⟨f3, f4, f5⟩, hR⟩ := hY.view (by omega)
  have hG := Lib.hid (hR.out.get x1 _ (Below.refl _ _).drew)
  obtain ⟨gv, hgv⟩ : ∃ o, o = (cget C x1).getD s0 := ⟨_, rfl⟩
  obtain ⟨gb, hgb⟩ : ∃ o, o = (cget C x1).isSome := ⟨_, rfl⟩
  rw [← hgv, ← hgb] at hG
  replace hY := Lib.hid hY
  clear hR hgv hgb
  go_cut [5, 6] (fun v5 v6 wz => v5 = .string gv ∧ v6 = .bool gb ∧ PY w0 wz xb p t ai K2 c0 k C C true true)
  case first =>
    go_region_held3 (fun w' => w'.cell? ⟨xb, 4, none⟩ = some (.slice wa cl wcp) ∧ w'.cell? ⟨bx, 1, none⟩ = some (.string x1)) (first | exact ⟨c4, k1⟩ | exact ⟨j4, j1⟩ | go_keep) (first
      | (go_at_call 45; refine hG.out.mono ?_; rintro z w1 ⟨rfl, hb1⟩; have hbb := (Below.refl W0.heap.size W0).drew.trans hb1; have j4 := keep hbb c4; have j1 := keep hbb k1; have hY1 := Lib.hid (hY.out.below hbb); clear hb1 hbb))
    all_goals
      go_wp2_with fail
      go_meet
      exact ⟨rfl, rfl, hY1.out⟩
  case rest =>
    obtain ⟨rfl, rfl, hY1⟩ := hcut
    obtain ⟨w1, hw1⟩ : ∃ w1, w1 = wc := ⟨wc, rfl⟩
    subst hw1
    obtain ⟨fr, hFr⟩ := (hY1.putG x1 x2).1
    have hP := Lib.hid ((hY1.below (Below.refl w1.heap.size w1).drew).putG x1 x2).2
    clear hY k0 k1 k2 k3 hqb c0' c1 c2 c3 c4 c5 hq f3 f4 f5 hG
    obtain ⟨k0, k1, k2, k3, hqb⟩ := hkx.out _ _ _ _ hY1
    obtain ⟨oa, oc, hn, wa, wcp, cl, ⟨c0', c1, c2, c3, c4, c5, hq⟩, ⟨f3, f4, f5⟩, hR⟩ := hY1.view (by omega)
    replace hFr := Lib.hid hFr
    replace hY1 := Lib.hid hY1
    clear hR
    go_wp2_with fail
    refine hFr.out.mono ?_
    clear hFr
    rintro z w1' ⟨rfl, rfl⟩
    go_upto_region 3 with fail
    go_cut [8, 9, 10] (fun v8 v9 v10 wz => v8 = .string s0 ∧ v9 = .bool false ∧ v10 = .int .i64 8 ∧ PY w0 wz xb p t ai K2 c0 k C C true true)
    case first =>
      go_region_held3 (fun w' => w'.cell? ⟨xb, 1, none⟩ = some (.pointer (some ⟨t, 0, none⟩)) ∧ w'.cell? ⟨bx, 1, none⟩ = some (.string x1) ∧ w'.cell? ⟨bx, 2, none⟩ = some (.string x2)) (first | exact ⟨c1, k1, k2⟩ | exact ⟨j0, j1, j2⟩ | go_keep) (first
        | (go_at_call 25; refine hP.out.mono ?_; rintro z w3 ⟨rfl, hb3⟩; have hbb := (Below.refl w1.heap.size w1).drew.trans hb3; have j0 := keep hbb c1; have j1 := keep hbb k1; have j2 := keep hbb k2; have hY3 := Lib.hid (hY1.out.below hbb); clear hb3 hbb))
      all_goals
        go_wp2_with fail
        go_meet
        exact ⟨rfl, rfl, rfl, hY3.out⟩
    case rest =>
      obtain ⟨w2, hw2⟩ : ∃ w2, w2 = wc := ⟨wc, rfl⟩
      subst hw2
      clear hP k0 k1 k2 k3 hqb c0' c1 c2 c3 c4 c5 hq f3 f4 f5
      obtain ⟨rfl, rfl, rfl, hY2⟩ := hcut
      obtain ⟨oa, oc, hn, wa, wcp, cl, ⟨c0', c1, c2, c3, c4, c5, hq⟩, ⟨f3, f4, f5⟩, hR⟩ := hY2.view (by omega)
      replace hY2 := Lib.hid hY2
      clear hR hY1
      go_wp2_with fail
      go_ret
      exact ⟨by simp, hfin.out _ _ _ hY2.out (by omega)⟩
theorem put10_any {dr : Bool} (h : PY w0 w xb p t ai K c0 k C C dr dr) (hk : k < 300) (x : A10) (hks : x.2.1.size ≤ maxLen) :
    Calls Try.prog 61 #[wobj xb, actV x] w (PEnd w0 xb p t ai K c0 (k + 1)) := by
  cases dr
  · exact put10_live h hk x hks
  · exact put10_gone h hk x
end
end Go.Proofs.Ytlhobbfncjjeaaa
namespace Go.Proofs.Ytlhobbfncjjeaaa
open Go.RowKit
section
variable {P : Program} (w : World) {ops : Array Oper} {rest : List Oper} {o : Oper} {a : Act} {Q : Exit → Act → World → Prop}
/-- An append whose run is known, as one step of a region that draws its order. -/
theorem step_append_run {K : Act → World → Prop} {E : Prop} (hgd : o.guard = none) (s x : Operand) (t : TypeId) (ho : o.op = .call { callee := .builtin .append, args := #[s, x], argTypes := #[t, t] })
    (v u r : Value) (w' : World) (hs : a.eval s = v) (hx : a.eval x = u) (hr : (Builtin.append_ #[t, t] o.type #[v, u]).run P w = .ok r w') (h : K (a.put o.dst r) w') :
    if Region.wanted o (yielded ops a.tmps) = true then Oper.wp P o a w K Q else E := by
  have hw : Region.wanted o (yielded ops a.tmps) = true := by simp [Region.wanted, hgd]
  rw [if_pos hw]
  unfold Oper.wp execOp
  simp only [ho, resolve, invoke, builtin, Sem.run_bind, Sem.run_pure, Result.andThen_ok, List.map_toArray, List.map_cons, List.map_nil, hs, hx, hr]
  exact h
end
theorem set2_other {w : World} {b q i j o : Nat} {u v x : Value} (h : q ≠ b) (hc : w.cell? ⟨q, o, none⟩ = some x) : ((w.setCell ⟨b, i, none⟩ u).setCell ⟨b, j, none⟩ v).cell? ⟨q, o, none⟩ = some x := by
  rw [World.cell?_of_block (w := w) (by rw [heap_set_other _ _ h, heap_set_other _ _ h])]
  exact hc
section
variable {w0 w : World} {xb p t ai c0 k : Nat} {K : List (Nat × Obj)} {C : Cont} {dr : Bool}
set_option maxRecDepth 100000 in
set_option maxHeartbeats 4000000 in
theorem does10_0 (h : PY w0 w xb p t ai K c0 k C C dr dr) (hk : k < 300) (x1 x2 : Str) (aft : Bool) (hks : x1.size ≤ maxLen) :
    Calls Try.prog 35 #[wobj xb, actV (0, x1, x2, aft)] w (PEnd w0 xb p t ai K c0 (k + 1)) := by
  unfold wobj actV
  simp only
  go_enter Try.func35, Try.ntmps35
  go_upto_region 1 with fail
  have hY := h.alloc (.cells #[.int .i64 0, .string x1, .string x2, .bool aft] 57)
  generalize w.alloc (.cells #[.int .i64 0, .string x1, .string x2, .bool aft] 57) = W0 at *
  generalize w.heap.size = bx at *
  obtain ⟨K2, hK2⟩ : ∃ K2, K2 = K ++ [(bx, Obj.cells #[.int .i64 0, .string x1, .string x2, .bool aft] 57)] := ⟨_, rfl⟩
  rw [← hK2] at hY
  have hfin : Hid (∀ W C' k' d', PY w0 W xb p t ai K2 c0 k' C' C' d' d' → k' ≤ k + 1 → ∃ C' dr, PY w0 W xb p t ai K c0 (k + 1) C' C' dr dr) := Lib.hid fun W C' k' d' hW hk' => ⟨C', d', (hW.keepK (fun y hy => by rw [hK2]; simp [hy])).up hk'⟩
  have hkx : Hid (∀ W k' C' T' d' x' K3, PY w0 W xb p t ai K3 c0 k' C' T' d' x' → (∀ y, y ∈ K2 → y ∈ K3) → W.cell? ⟨bx, 0, none⟩ = some (.int .i64 0) ∧ W.cell? ⟨bx, 1, none⟩ = some (.string x1) ∧ W.cell? ⟨bx, 2, none⟩ = some (.string x2) ∧ W.cell? ⟨bx, 3, none⟩ = some (.bool aft) ∧ bx < W.heap.size) := Lib.hid fun W k' C' T' d' x' K3 hW hK3 => by
    have := hW.box (y := (bx, .cells #[.int .i64 0, .string x1, .string x2, .bool aft] 57)) (hK3 _ (by rw [hK2]; simp))
    exact act_box (x := (0, x1, x2, aft)) this
  clear hK2 h
  obtain ⟨k0, k1, k2, k3, hqb⟩ := hkx.out _ _ _ _ _ _ _ hY (fun _ hy => hy)
  obtain ⟨oa, oc, hn, wa, wcp, cl, ⟨c0', c1, c2, c3, c4, c5, hq⟩, ⟨f3, f4, f5⟩, hR⟩ := hY.view (by omega)
  have hP := Lib.hid (put10_any hY hk (0, x1, x2, aft) hks)
  unfold wobj actV at hP
  replace hY := Lib.hid hY
  clear hR
  go_wp2_with fail
  refine hP.out.mono ?_
  clear hP
  rintro z w1 ⟨rfl, C1, d1, hY1⟩
  replace hY1 := Lib.hid hY1
  clear k0 k1 k2 k3 hqb c0' c1 c2 c3 c4 c5 hq f3 f4 f5
  go_wp2_with fail
  go_ret
  exact ⟨rfl, hfin.out _ _ _ _ hY1.out (Nat.le_refl _)⟩
set_option maxRecDepth 100000 in
set_option maxHeartbeats 4000000 in
theorem does10_1 (h : PY w0 w xb p t ai K c0 k C C dr dr) (hk : k < 300) (x1 x2 : Str) (aft : Bool) :
    Calls Try.prog 35 #[wobj xb, actV (1, x1, x2, aft)] w (PEnd w0 xb p t ai K c0 (k + 1)) := by
  unfold wobj actV
  simp only
  go_enter Try.func35, Try.ntmps35
  go_upto_region 1 with fail
  have hY := h.alloc (.cells #[.int .i64 1, .string x1, .string x2, .bool aft] 57)
  generalize w.alloc (.cells #[.int .i64 1, .string x1, .string x2, .bool aft] 57) = W0 at *
  generalize w.heap.size = bx at *
  obtain ⟨K2, hK2⟩ : ∃ K2, K2 = K ++ [(bx, Obj.cells #[.int .i64 1, .string x1, .string x2, .bool aft] 57)] := ⟨_, rfl⟩
  rw [← hK2] at hY
  have hfin : Hid (∀ W C' k' d', PY w0 W xb p t ai K2 c0 k' C' C' d' d' → k' ≤ k + 1 → ∃ C' dr, PY w0 W xb p t ai K c0 (k + 1) C' C' dr dr) := Lib.hid fun W C' k' d' hW hk' => ⟨C', d', (hW.keepK (fun y hy => by rw [hK2]; simp [hy])).up hk'⟩
  have hkx : Hid (∀ W k' C' T' d' x' K3, PY w0 W xb p t ai K3 c0 k' C' T' d' x' → (∀ y, y ∈ K2 → y ∈ K3) → W.cell? ⟨bx, 0, none⟩ = some (.int .i64 1) ∧ W.cell? ⟨bx, 1, none⟩ = some (.string x1) ∧ W.cell? ⟨bx, 2, none⟩ = some (.string x2) ∧ W.cell? ⟨bx, 3, none⟩ = some (.bool aft) ∧ bx < W.heap.size) := Lib.hid fun W k' C' T' d' x' K3 hW hK3 => by
    have := hW.box (y := (bx, .cells #[.int .i64 1, .string x1, .string x2, .bool aft] 57)) (hK3 _ (by rw [hK2]; simp))
    exact act_box (x := (1, x1, x2, aft)) this
  clear hK2 h
  obtain ⟨k0, k1, k2, k3, hqb⟩ := hkx.out _ _ _ _ _ _ _ hY (fun _ hy => hy)
  obtain ⟨oa, oc, hn, wa, wcp, cl, ⟨c0', c1, c2, c3, c4, c5, hq⟩, ⟨f3, f4, f5⟩, hR⟩ := hY.view (by omega)
  have hG := Lib.hid (hR.out.get x1 _ (Below.refl _ _).drew)
  obtain ⟨gv, hgv⟩ : ∃ o, o = (cget C x1).getD s0 := ⟨_, rfl⟩
  obtain ⟨gb, hgb⟩ : ∃ o, o = (cget C x1).isSome := ⟨_, rfl⟩
  rw [← hgv, ← hgb] at hG
  replace hgv := Lib.hid hgv
  replace hgb := Lib.hid hgb
  replace hY := Lib.hid hY
  clear hR
  go_upto_region 5 with fail
  go_cut [5, 6] (fun v5 v6 wz => v5 = .string gv ∧ v6 = .bool gb ∧ PY w0 wz xb p t ai K2 c0 k C C dr dr)
  case first =>
    go_region_held3 (fun w' => w'.cell? ⟨xb, 4, none⟩ = some (.slice wa cl wcp) ∧ w'.cell? ⟨bx, 1, none⟩ = some (.string x1)) (first | exact ⟨c4, k1⟩ | exact ⟨j4, j1⟩ | go_keep) (first
      | (go_at_call 45; refine hG.out.mono ?_; rintro z w1 ⟨rfl, hb1⟩; have hbb := (Below.refl W0.heap.size W0).drew.trans hb1; have j4 := keep hbb c4; have j1 := keep hbb k1; have hY1 := Lib.hid (hY.out.below hbb); clear hb1 hbb))
    all_goals
      go_wp2_with fail
      go_meet
      exact ⟨rfl, rfl, hY1.out⟩
  case rest =>
    obtain ⟨rfl, rfl, hY1⟩ := hcut
    obtain ⟨w1, hw1⟩ : ∃ w1, w1 = wc := ⟨wc, rfl⟩
    subst hw1
    clear hY hG k0 k1 k2 k3 hqb c0' c1 c2 c3 c4 c5 hq f3 f4 f5
    obtain ⟨k0, k1, k2, k3, hqb⟩ := hkx.out _ _ _ _ _ _ _ hY1 (fun _ hy => hy)
    obtain ⟨oa, oc, hn, wa, wcp, cl, ⟨c0', c1, c2, c3, c4, c5, hq⟩, ⟨f3, f4, f5⟩, hR⟩ := hY1.view (by omega)
    have hP := Lib.hid ((hY1.below (Below.refl w1.heap.size w1).drew).delete (by omega) x1)
    rw [← hgv.out, ← hgb.out] at hP
    replace hY1 := Lib.hid hY1
    clear hR
    go_upto_region 6 with fail
    go_cut [7, 8] (fun v7 v8 wz => v7 = .string gv ∧ v8 = .bool gb ∧ PY w0 wz xb p t ai K2 c0 k C (cdel C x1) dr dr)
    case first =>
      go_region_held3 (fun w' => w'.cell? ⟨xb, 1, none⟩ = some (.pointer (some ⟨t, 0, none⟩)) ∧ w'.cell? ⟨bx, 1, none⟩ = some (.string x1)) (first | exact ⟨c1, k1⟩ | exact ⟨j0, j1⟩ | go_keep) (first
        | (go_at_call 26; refine hP.out.mono ?_; rintro z w3 ⟨rfl, hY3⟩; obtain ⟨_, _, _, _, _, ⟨_, j0, _⟩, _⟩ := hY3.cells; obtain ⟨_, j1, _⟩ := hkx.out _ _ _ _ _ _ _ hY3 (fun _ hy => hy); replace hY3 := Lib.hid hY3))
      all_goals
        go_wp2_with fail
        go_meet
        exact ⟨rfl, rfl, hY3.out⟩
    case rest =>
      obtain ⟨rfl, rfl, hY2⟩ := hcut
      obtain ⟨w2, hw2⟩ : ∃ w2, w2 = wc := ⟨wc, rfl⟩
      subst hw2
      clear hY1 hP k0 k1 k2 k3 hqb c0' c1 c2 c3 c4 c5 hq f3 f4 f5
      obtain ⟨k0, k1, k2, k3, hqb⟩ := hkx.out _ _ _ _ _ _ _ hY2 (fun _ hy => hy)
      obtain ⟨oa, oc, hn, wa, wcp, cl, ⟨c0', c1, c2, c3, c4, c5, hq⟩, ⟨f3, f4, f5⟩, hR⟩ := hY2.view (by omega)
      have hP := Lib.hid (hR.out.del x1 _ (Below.refl _ _).drew)
      have hst : gv.toList == gv.toList := by simp
      have hcs : Hid (CSort (cdel C x1) ∧ (cdel C x1).length ≤ k) := Lib.hid (by
        obtain ⟨ρ, P, gens, free, D, d, dI, oa, oc, H, wa, wc, hx⟩ := hY2
        exact hx.ct)
      replace hY2 := Lib.hid hY2
      clear hR
      go_upto_region 7 with fail
      go_cut [8] (fun v8 wz => v8 = .bool gb ∧ PY w0 wz xb p t ai K2 c0 k (cdel C x1) (cdel C x1) dr dr)
      case first =>
        go_region_with (go_at_call 40; refine hP.out.mono ?_; rintro z w5 ⟨a5, c5', rfl, hrow, hb5⟩; have hB5 := (Below.refl w2.heap.size w2).drew.trans hb5; have i4 := keep hB5 c4; have g4 := keepf hB5 c4 f4; have hq5 := Nat.lt_of_lt_of_le hq hB5.size; replace hrow := Lib.hid hrow; replace hB5 := Lib.hid hB5; clear hb5)
        all_goals
          go_wp2_with fail
          go_meet
          exact ⟨rfl, hY2.out.setW hB5.out hrow.out hcs.out⟩
      case rest =>
        obtain ⟨rfl, hY5⟩ := hcut
        replace hY5 := Lib.hid hY5
        clear hP hY2 hcs k0 k1 k2 k3 hqb c0' c1 c2 c3 c4 c5 hq f3 f4 f5
        go_wp2_with fail
        go_ret
        exact ⟨by simp, hfin.out _ _ _ _ hY5.out (by omega)⟩
set_option maxRecDepth 100000 in
set_option maxHeartbeats 4000000 in
theorem does10_2 (h : PY w0 w xb p t ai K c0 k C C dr dr) (hk : k < 300) (x1 x2 : Str) (aft : Bool) :
    Calls Try.prog 35 #[wobj xb, actV (2, x1, x2, aft)] w (PEnd w0 xb p t ai K c0 (k + 1)) := by
  unfold wobj actV
  simp only
  go_enter Try.func35, Try.ntmps35
  go_upto_region 1 with fail
  have hY := h.alloc (.cells #[.int .i64 2, .string x1, .string x2, .bool aft] 57)
  generalize w.alloc (.cells #[.int .i64 2, .string x1, .string x2, .bool aft] 57) = W0 at *
  generalize w.heap.size = bx at *
  obtain ⟨K2, hK2⟩ : ∃ K2, K2 = K ++ [(bx, Obj.cells #[.int .i64 2, .string x1, .string x2, .bool aft] 57)] := ⟨_, rfl⟩
  rw [← hK2] at hY
  have hfin : Hid (∀ W C' k' d', PY w0 W xb p t ai K2 c0 k' C' C' d' d' → k' ≤ k + 1 → ∃ C' dr, PY w0 W xb p t ai K c0 (k + 1) C' C' dr dr) := Lib.hid fun W C' k' d' hW hk' => ⟨C', d', (hW.keepK (fun y hy => by rw [hK2]; simp [hy])).up hk'⟩
  have hkx : Hid (∀ W k' C' T' d' x' K3, PY w0 W xb p t ai K3 c0 k' C' T' d' x' → (∀ y, y ∈ K2 → y ∈ K3) → W.cell? ⟨bx, 0, none⟩ = some (.int .i64 2) ∧ W.cell? ⟨bx, 1, none⟩ = some (.string x1) ∧ W.cell? ⟨bx, 2, none⟩ = some (.string x2) ∧ W.cell? ⟨bx, 3, none⟩ = some (.bool aft) ∧ bx < W.heap.size) := Lib.hid fun W k' C' T' d' x' K3 hW hK3 => by
    have := hW.box (y := (bx, .cells #[.int .i64 2, .string x1, .string x2, .bool aft] 57)) (hK3 _ (by rw [hK2]; simp))
    exact act_box (x := (2, x1, x2, aft)) this
  clear hK2 h
  obtain ⟨k0, k1, k2, k3, hqb⟩ := hkx.out _ _ _ _ _ _ _ hY (fun _ hy => hy)
  obtain ⟨oa, oc, hn, wa, wcp, cl, ⟨c0', c1, c2, c3, c4, c5, hq⟩, ⟨f3, f4, f5⟩, hR⟩ := hY.view (by omega)
  obtain ⟨gv, hgv⟩ : ∃ o, o = (cget C x1).getD s0 := ⟨_, rfl⟩
  obtain ⟨gb, hgb⟩ : ∃ o, o = (cget C x1).isSome := ⟨_, rfl⟩
  have hP := Lib.hid ((hY.below (Below.refl W0.heap.size W0).drew).get x1)
  rw [← hgv, ← hgb] at hP
  replace hgv := Lib.hid hgv
  replace hgb := Lib.hid hgb
  replace hY := Lib.hid hY
  clear hR
  go_upto_region 10 with fail
  go_cut [9, 10, 11] (fun v9 v10 v11 wz => v9 = .string gv ∧ v10 = .bool gb ∧ v11 = .bool dr ∧ PY w0 wz xb p t ai K2 c0 k C C dr dr)
  case first =>
    go_region_held3 (fun w' => w'.cell? ⟨xb, 1, none⟩ = some (.pointer (some ⟨t, 0, none⟩)) ∧ w'.cell? ⟨bx, 1, none⟩ = some (.string x1)) (first | exact ⟨c1, k1⟩ | exact ⟨j0, j1⟩ | go_keep) (first
      | (go_at_call 14; refine hP.out.mono ?_; rintro z w1 ⟨rfl, hb1⟩; have hbb := (Below.refl W0.heap.size W0).drew.trans hb1; have j0 := keep hbb c1; have j1 := keep hbb k1; have hY1 := Lib.hid (hY.out.below hbb); clear hb1 hbb))
    all_goals
      go_wp2_with fail
      go_meet
      exact ⟨rfl, rfl, rfl, hY1.out⟩
  case rest =>
    obtain ⟨rfl, rfl, rfl, hY1⟩ := hcut
    obtain ⟨w1, hw1⟩ : ∃ w1, w1 = wc := ⟨wc, rfl⟩
    subst hw1
    clear hY hP k0 k1 k2 k3 hqb c0' c1 c2 c3 c4 c5 hq f3 f4 f5
    obtain ⟨k0, k1, k2, k3, hqb⟩ := hkx.out _ _ _ _ _ _ _ hY1 (fun _ hy => hy)
    obtain ⟨oa, oc, hn, wa, wcp, cl, ⟨c0', c1, c2, c3, c4, c5, hq⟩, ⟨f3, f4, f5⟩, hR⟩ := hY1.view (by omega)
    have hG := Lib.hid (hR.out.get x1 _ (Below.refl _ _).drew)
    rw [← hgv.out, ← hgb.out] at hG
    replace hY1 := Lib.hid hY1
    clear hR
    go_upto_region 11 with fail
    go_cut [12, 13] (fun v12 v13 wz => v12 = .string gv ∧ v13 = .bool gb ∧ PY w0 wz xb p t ai K2 c0 k C C dr dr)
    case first =>
      go_region_held3 (fun w' => w'.cell? ⟨xb, 4, none⟩ = some (.slice wa cl wcp) ∧ w'.cell? ⟨bx, 1, none⟩ = some (.string x1)) (first | exact ⟨c4, k1⟩ | exact ⟨j4, j1⟩ | go_keep) (first
        | (go_at_call 45; refine hG.out.mono ?_; rintro z w3 ⟨rfl, hb1⟩; have hbb := (Below.refl w1.heap.size w1).drew.trans hb1; have j4 := keep hbb c4; have j1 := keep hbb k1; have hY3 := Lib.hid (hY1.out.below hbb); clear hb1 hbb))
      all_goals
        go_wp2_with fail
        go_meet
        exact ⟨rfl, rfl, hY3.out⟩
    case rest =>
      obtain ⟨rfl, rfl, hY2⟩ := hcut
      obtain ⟨w2, hw2⟩ : ∃ w2, w2 = wc := ⟨wc, rfl⟩
      subst hw2
      clear hY1 hG k0 k1 k2 k3 hqb c0' c1 c2 c3 c4 c5 hq f3 f4 f5
      obtain ⟨k0, k1, k2, k3, hqb⟩ := hkx.out _ _ _ _ _ _ _ hY2 (fun _ hy => hy)
      obtain ⟨oa, oc, hn, wa, wcp, cl, ⟨c0', c1, c2, c3, c4, c5, hq⟩, ⟨f3, f4, f5⟩, hR⟩ := hY2.view (by omega)
      replace hY2 := Lib.hid hY2
      clear hR
      go_wp2_with fail
      go_ret
      exact ⟨by simp, hfin.out _ _ _ _ hY2.out (by omega)⟩
set_option maxRecDepth 100000 in
set_option maxHeartbeats 4000000 in
theorem does10_3 (h : PY w0 w xb p t ai K c0 k C C dr dr) (hk : k < 300) (x1 x2 : Str) (aft : Bool) (hks : x1.size ≤ maxLen) :
    Calls Try.prog 35 #[wobj xb, actV (3, x1, x2, aft)] w (PEnd w0 xb p t ai K c0 (k + 1)) := by
  unfold wobj actV
  simp only
  go_enter Try.func35, Try.ntmps35
  go_upto_region 1 with fail
  have hY := h.alloc (.cells #[.int .i64 3, .string x1, .string x2, .bool aft] 57)
  generalize w.alloc (.cells #[.int .i64 3, .string x1, .string x2, .bool aft] 57) = W0 at *
  generalize w.heap.size = bx at *
  obtain ⟨K2, hK2⟩ : ∃ K2, K2 = K ++ [(bx, Obj.cells #[.int .i64 3, .string x1, .string x2, .bool aft] 57)] := ⟨_, rfl⟩
  rw [← hK2] at hY
  have hfin : Hid (∀ W C' k' d', PY w0 W xb p t ai K2 c0 k' C' C' d' d' → k' ≤ k + 1 → ∃ C' dr, PY w0 W xb p t ai K c0 (k + 1) C' C' dr dr) := Lib.hid fun W C' k' d' hW hk' => ⟨C', d', (hW.keepK (fun y hy => by rw [hK2]; simp [hy])).up hk'⟩
  have hkx : Hid (∀ W k' C' T' d' x' K3, PY w0 W xb p t ai K3 c0 k' C' T' d' x' → (∀ y, y ∈ K2 → y ∈ K3) → W.cell? ⟨bx, 0, none⟩ = some (.int .i64 3) ∧ W.cell? ⟨bx, 1, none⟩ = some (.string x1) ∧ W.cell? ⟨bx, 2, none⟩ = some (.string x2) ∧ W.cell? ⟨bx, 3, none⟩ = some (.bool aft) ∧ bx < W.heap.size) := Lib.hid fun W k' C' T' d' x' K3 hW hK3 => by
    have := hW.box (y := (bx, .cells #[.int .i64 3, .string x1, .string x2, .bool aft] 57)) (hK3 _ (by rw [hK2]; simp))
    exact act_box (x := (3, x1, x2, aft)) this
  clear hK2 h
  obtain ⟨k0, k1, k2, k3, hqb⟩ := hkx.out _ _ _ _ _ _ _ hY (fun _ hy => hy)
  obtain ⟨oa, oc, hn, wa, wcp, cl, ⟨c0', c1, c2, c3, c4, c5, hq⟩, ⟨f3, f4, f5⟩, hR⟩ := hY.view (by omega)
  obtain ⟨o, ho⟩ : ∃ o, o = cnext C x1 aft := ⟨_, rfl⟩
  obtain ⟨nk, hnk⟩ : ∃ nk, nk = (o.map (·.1)).getD s0 := ⟨_, rfl⟩
  obtain ⟨nv, hnv⟩ : ∃ nv, nv = (o.map (·.2)).getD s0 := ⟨_, rfl⟩
  obtain ⟨nf, hnf⟩ : ∃ nf, nf = o.isSome := ⟨_, rfl⟩
  have hP := Lib.hid ((hY.below (Below.refl W0.heap.size W0).drew).next x1 aft)
  rw [← ho, ← hnk, ← hnv, ← hnf] at hP
  have hpv : Hid (pairV (cnext C x1 aft) = .tuple #[.agg #[.string nk, .string nv], .bool nf]) := Lib.hid (by
    rw [← ho, hnk, hnv, hnf]
    cases o <;> rfl)
  clear ho hnk hnv hnf
  replace hY := Lib.hid hY
  clear hR
  go_upto_region 14 with fail
  go_cut [14, 15, 16, 17] (fun v14 v15 v16 v17 wz => v14 = .string nk ∧ v15 = .string nv ∧ v16 = .bool nf ∧ v17 = .bool dr ∧ PY w0 wz xb p t ai K2 c0 k C C dr dr)
  case first =>
    go_region_held3 (fun w' => w'.cell? ⟨xb, 1, none⟩ = some (.pointer (some ⟨t, 0, none⟩)) ∧ w'.cell? ⟨bx, 1, none⟩ = some (.string x1) ∧ w'.cell? ⟨bx, 3, none⟩ = some (.bool aft)) (first | exact ⟨c1, k1, k3⟩ | exact ⟨j0, j1, j3⟩ | go_keep) (first
      | (go_at_call 17; refine hP.out.mono ?_; rintro z w1 ⟨rfl, hb1⟩; have hbb := (Below.refl W0.heap.size W0).drew.trans hb1; have j0 := keep hbb c1; have j1 := keep hbb k1; have j3 := keep hbb k3; have hY1 := Lib.hid (hY.out.below hbb); clear hb1 hbb))
    all_goals
      go_wp2_with fail
      go_meet
      exact ⟨rfl, rfl, rfl, rfl, hY1.out⟩
  case rest =>
    obtain ⟨rfl, rfl, rfl, rfl, hY1⟩ := hcut
    obtain ⟨w1, hw1⟩ : ∃ w1, w1 = wc := ⟨wc, rfl⟩
    subst hw1
    clear hY hP k0 k1 k2 k3 hqb c0' c1 c2 c3 c4 c5 hq f3 f4 f5
    obtain ⟨k0, k1, k2, k3, hqb⟩ := hkx.out _ _ _ _ _ _ _ hY1 (fun _ hy => hy)
    obtain ⟨oa, oc, hn, wa, wcp, cl, ⟨c0', c1, c2, c3, c4, c5, hq⟩, ⟨f3, f4, f5⟩, hR⟩ := hY1.view (by omega)
    have hG := Lib.hid (fun W hW => hR.out.next x1 aft W hW hks)
    rw [hpv.out] at hG
    have nx : xb ≠ w1.heap.size := Nat.ne_of_lt hq
    have ny : bx ≠ w1.heap.size := Nat.ne_of_lt hqb
    replace hY1 := Lib.hid hY1
    clear hR
    go_upto_region 15 with fail
    go_cut [18, 19] (fun v18 v19 wz => v19 = .bool nf ∧ ∃ bb, v18 = .pointer (some ⟨bb, 0, none⟩) ∧ PY w0 wz xb p t ai (K2 ++ [(bb, .cells #[.string nk, .string nv] 101)]) c0 k C C dr dr)
    case first =>
      go_region_held3 (fun w' => w'.cell? ⟨xb, 4, none⟩ = some (.slice wa cl wcp) ∧ w'.cell? ⟨bx, 1, none⟩ = some (.string x1) ∧ w'.cell? ⟨bx, 3, none⟩ = some (.bool aft)) (first | exact ⟨c4, k1, k3⟩ | exact ⟨j4, j1, j3⟩ | exact ⟨set2_other nx j4, set2_other ny j1, set2_other ny j3⟩ | go_keep) (first
        | (go_at_call 62; refine (hG.out _ (Below.refl w1.heap.size w1).drew).mono ?_; rintro z w3 ⟨rfl, hb3⟩; have hbb := (Below.refl w1.heap.size w1).drew.trans hb3; have j4 := keep hbb c4; have j1 := keep hbb k1; have j3 := keep hbb k3; replace hbb := Lib.hid hbb; clear hb3)
        | (go_at_call 62; refine (hG.out _ ((Below.refl w1.heap.size w1).alloc (Nat.le_refl _) (.cells #[.string ⟨#[]⟩, .string ⟨#[]⟩] 101)).drew).mono ?_; rintro z w3 ⟨rfl, hb3⟩; have hb0 := ((Below.refl w1.heap.size w1).alloc (Nat.le_refl _) (.cells #[.string ⟨#[]⟩, .string ⟨#[]⟩] 101)).drew; have hbb := hb0.trans (hb3.mono hb0.size); clear hb0; have j4 := keep hbb c4; have j1 := keep hbb k1; have j3 := keep hbb k3; have kk : w3.heap[w1.heap.size]? = some (.cells #[.string ⟨#[]⟩, .string ⟨#[]⟩] 101) := Below.heap' hb3 (heap_alloc_new _ _); have i0 : w3.cell? ⟨w1.heap.size, 0, none⟩ = some (.string ⟨#[]⟩) := (by rw [cell_of_heap kk]; rfl); have i1 : w3.cell? ⟨w1.heap.size, 1, none⟩ = some (.string ⟨#[]⟩) := (by rw [cell_of_heap kk]; rfl); have i2 : w3.frozen? ⟨w1.heap.size, 0, none⟩ = false := frozen_of_heap kk _; have i3 : w3.frozen? ⟨w1.heap.size, 1, none⟩ = false := frozen_of_heap kk _; have i4 := heap_lt kk; replace kk := Lib.hid kk; replace hbb := Lib.hid hbb; clear hb3))
      all_goals
        go_wp2_with fail
        go_meet
        first
          | exact ⟨rfl, _, rfl, hY1.out.boxed (hbb.out.alloc hbb.out.size _) hbb.out.size (heap_alloc_new _ _)⟩
          | (refine ⟨rfl, _, rfl, hY1.out.boxed (Upd.below (S := [w1.heap.size]) (((Upd.refl _ _).setCell (by simp) _).setCell (by simp) _) hbb.out.size (by simp) |> hbb.out.trans) (Nat.le_refl _) ?_⟩
             rw [heap_self, heap_self, kk.out]
             rfl)
    case rest =>
      obtain ⟨rfl, bb, rfl, hY2⟩ := hcut
      obtain ⟨w2, hw2⟩ : ∃ w2, w2 = wc := ⟨wc, rfl⟩
      subst hw2
      have kb := hY2.box (y := (bb, .cells #[.string nk, .string nv] 101)) (by simp)
      have b0 : w2.cell? ⟨bb, 0, none⟩ = some (.string nk) := by rw [cell_of_heap kb]; rfl
      have b1 : w2.cell? ⟨bb, 1, none⟩ = some (.string nv) := by rw [cell_of_heap kb]; rfl
      have bl := heap_lt kb
      replace hY2 := hY2.keepK (K' := K2) (fun y hy => List.mem_append_left _ hy)
      clear hY1 hG nx ny kb k0 k1 k2 k3 hqb c0' c1 c2 c3 c4 c5 hq f3 f4 f5
      obtain ⟨k0, k1, k2, k3, hqb⟩ := hkx.out _ _ _ _ _ _ _ hY2 (fun _ hy => hy)
      obtain ⟨oa, oc, hn, wa, wcp, cl, ⟨c0', c1, c2, c3, c4, c5, hq⟩, ⟨f3, f4, f5⟩, hR⟩ := hY2.view (by omega)
      replace hY2 := Lib.hid hY2
      clear hR
      go_wp2_with fail
      go_ret
      exact ⟨by simp, hfin.out _ _ _ _ hY2.out (by omega)⟩
set_option maxRecDepth 100000 in
set_option maxHeartbeats 4000000 in
theorem does10_4 (h : PY w0 w xb p t ai K c0 k C C dr dr) (hk : k < 300) (x1 x2 : Str) (aft : Bool) :
    Calls Try.prog 35 #[wobj xb, actV (4, x1, x2, aft)] w (PEnd w0 xb p t ai K c0 (k + 1)) := by
  unfold wobj actV
  simp only
  go_enter Try.func35, Try.ntmps35
  go_upto_region 1 with fail
  have hY := h.alloc (.cells #[.int .i64 4, .string x1, .string x2, .bool aft] 57)
  generalize w.alloc (.cells #[.int .i64 4, .string x1, .string x2, .bool aft] 57) = W0 at *
  generalize w.heap.size = bx at *
  obtain ⟨K2, hK2⟩ : ∃ K2, K2 = K ++ [(bx, Obj.cells #[.int .i64 4, .string x1, .string x2, .bool aft] 57)] := ⟨_, rfl⟩
  rw [← hK2] at hY
  have hfin : Hid (∀ W C' k' d', PY w0 W xb p t ai K2 c0 k' C' C' d' d' → k' ≤ k + 1 → ∃ C' dr, PY w0 W xb p t ai K c0 (k + 1) C' C' dr dr) := Lib.hid fun W C' k' d' hW hk' => ⟨C', d', (hW.keepK (fun y hy => by rw [hK2]; simp [hy])).up hk'⟩
  have hkx : Hid (∀ W k' C' T' d' x' K3, PY w0 W xb p t ai K3 c0 k' C' T' d' x' → (∀ y, y ∈ K2 → y ∈ K3) → W.cell? ⟨bx, 0, none⟩ = some (.int .i64 4) ∧ W.cell? ⟨bx, 1, none⟩ = some (.string x1) ∧ W.cell? ⟨bx, 2, none⟩ = some (.string x2) ∧ W.cell? ⟨bx, 3, none⟩ = some (.bool aft) ∧ bx < W.heap.size) := Lib.hid fun W k' C' T' d' x' K3 hW hK3 => by
    have := hW.box (y := (bx, .cells #[.int .i64 4, .string x1, .string x2, .bool aft] 57)) (hK3 _ (by rw [hK2]; simp))
    exact act_box (x := (4, x1, x2, aft)) this
  clear hK2 h
  obtain ⟨k0, k1, k2, k3, hqb⟩ := hkx.out _ _ _ _ _ _ _ hY (fun _ hy => hy)
  obtain ⟨oa, oc, hn, wa, wcp, cl, ⟨c0', c1, c2, c3, c4, c5, hq⟩, ⟨f3, f4, f5⟩, hR⟩ := hY.view (by omega)
  have hP := Lib.hid (hY.ialloc 1)
  replace hY := Lib.hid hY
  clear hR
  go_wp2_with fail
  refine hP.out.mono ?_
  clear hP k0 k1 k2 k3 hqb c0' c1 c2 c3 c4 c5 hq f3 f4 f5
  rintro z w1 (⟨h1, h2, rfl, hY1⟩ | ⟨rfl, hY1⟩)
  · have hYa := hY1.alloc (.cells #[.int .i64 h1, .int .u64 h2] 70)
    clear hY1
    go_upto_region 20 with fail
    generalize w1.alloc (.cells #[.int .i64 h1, .int .u64 h2] 70) = w2 at *
    generalize w1.heap.size = hb at *
    have kb := hYa.box (y := (hb, .cells #[.int .i64 h1, .int .u64 h2] 70)) (by simp)
    have b0 : w2.cell? ⟨hb, 0, none⟩ = some (.int .i64 h1) := by rw [cell_of_heap kb]; rfl
    have b1 : w2.cell? ⟨hb, 1, none⟩ = some (.int .u64 h2) := by rw [cell_of_heap kb]; rfl
    have bl := heap_lt kb
    obtain ⟨oa, oc, hn, c3, hApp⟩ := hYa.tell (by omega)
    obtain ⟨_, _, _, _, _, ⟨_, _, _, _, _, _, hq⟩, _⟩ := hYa.cells
    obtain ⟨a6, c6, n6, w6, hrun, q1, ⟨q0, q2⟩, q3, hY6⟩ := hApp (w2.drew.alloc (.cells #[.int .i64 h1, .int .u64 h2] 70)) ((Below.refl _ _).drew.alloc (Nat.le_refl _) _) h1 h2 w2.drew.heap.size (heap_alloc_new _ _)
    replace hY6 := Lib.hid hY6
    replace hYa := Lib.hid hYa
    replace hrun := Lib.hid hrun
    clear hApp kb
    go_wp2_with fail
    go_region_law (refine step_append_run _ rfl (.tmp 175) (.tmp 177) 76 rfl _ _ _ _ (by simp [Act.eval]) (by simp [Act.eval]) hrun.out ?_)
    all_goals
      go_wp2_with fail
      go_ret
      exact ⟨rfl, hfin.out _ _ _ _ (hY6.out.keepK (fun y hy => List.mem_append_left _ hy)) (Nat.le_refl _)⟩
  · replace hY1 := Lib.hid hY1
    go_wp2_with fail
    go_ret
    exact ⟨rfl, hfin.out _ _ _ _ (hY1.out.below ((Below.refl _ _).alloc (Nat.le_refl _) _)) (by omega)⟩
set_option maxRecDepth 100000 in
set_option maxHeartbeats 4000000 in
theorem does10_5 (h : PY w0 w xb p t ai K c0 k C C dr dr) (hk : k < 300) (x1 x2 : Str) (aft : Bool) :
    Calls Try.prog 35 #[wobj xb, actV (5, x1, x2, aft)] w (PEnd w0 xb p t ai K c0 (k + 1)) := by
  unfold wobj actV
  simp only
  go_enter Try.func35, Try.ntmps35
  go_upto_region 1 with fail
  have hY := h.alloc (.cells #[.int .i64 5, .string x1, .string x2, .bool aft] 57)
  generalize w.alloc (.cells #[.int .i64 5, .string x1, .string x2, .bool aft] 57) = W0 at *
  generalize w.heap.size = bx at *
  obtain ⟨K2, hK2⟩ : ∃ K2, K2 = K ++ [(bx, Obj.cells #[.int .i64 5, .string x1, .string x2, .bool aft] 57)] := ⟨_, rfl⟩
  rw [← hK2] at hY
  have hfin : Hid (∀ W C' k' d', PY w0 W xb p t ai K2 c0 k' C' C' d' d' → k' ≤ k + 1 → ∃ C' dr, PY w0 W xb p t ai K c0 (k + 1) C' C' dr dr) := Lib.hid fun W C' k' d' hW hk' => ⟨C', d', (hW.keepK (fun y hy => by rw [hK2]; simp [hy])).up hk'⟩
  have hkx : Hid (∀ W k' C' T' d' x' K3, PY w0 W xb p t ai K3 c0 k' C' T' d' x' → (∀ y, y ∈ K2 → y ∈ K3) → W.cell? ⟨bx, 0, none⟩ = some (.int .i64 5) ∧ W.cell? ⟨bx, 1, none⟩ = some (.string x1) ∧ W.cell? ⟨bx, 2, none⟩ = some (.string x2) ∧ W.cell? ⟨bx, 3, none⟩ = some (.bool aft) ∧ bx < W.heap.size) := Lib.hid fun W k' C' T' d' x' K3 hW hK3 => by
    have := hW.box (y := (bx, .cells #[.int .i64 5, .string x1, .string x2, .bool aft] 57)) (hK3 _ (by rw [hK2]; simp))
    exact act_box (x := (5, x1, x2, aft)) this
  clear hK2 h
  obtain ⟨k0, k1, k2, k3, hqb⟩ := hkx.out _ _ _ _ _ _ _ hY (fun _ hy => hy)
  obtain ⟨oa, oc, hn, wa, wcp, cl, ⟨c0', c1, c2, c3, c4, c5, hq⟩, ⟨f3, f4, f5⟩, hR⟩ := hY.view (by omega)
  clear c3 hR
  obtain ⟨oa, oc, hn, c3, hnk, hpos⟩ := hY.five
  by_cases h0 : 0 < hn
  · obtain ⟨b, off, h1, h2, rfl, hle, hmx, ⟨b0, b1, bl⟩, hRl⟩ := hpos h0
    have hP := Lib.hid (hRl _ (Below.refl W0.heap.size W0).drew)
    have hi0 : (0 : Int) < (hn : Int) := by omega
    replace hY := Lib.hid hY
    clear hpos hRl
    go_upto_region 23 with fail
    go_cut [] (fun wz => PY w0 wz xb p t ai K2 c0 k C C dr dr ∧ wz.cell? ⟨xb, 3, none⟩ = some (.slice (some ⟨b, off, none⟩) hn oc))
    case first =>
      go_region_held3 (fun w' => w'.cell? ⟨xb, 2, none⟩ = some (.pointer (some ⟨ai, 0, none⟩)) ∧ w'.cell? ⟨xb, 3, none⟩ = some (.slice (some ⟨b, off, none⟩) hn oc) ∧ w'.cell? ⟨b, off, none⟩ = some (.int .i64 h1) ∧ w'.cell? ⟨b, off + 1, none⟩ = some (.int .u64 h2)) (first | exact ⟨c2, c3, b0, b1⟩ | exact ⟨j0, j1, j2, j3⟩ | go_keep) (first
        | (go_at_call 64; refine hP.out.mono ?_; rintro z w3 ⟨⟨rb, rfl⟩, hY3, j0, j1, j2, j3⟩; replace hY3 := Lib.hid hY3))
      all_goals
        go_wp2_with fail
        go_meet
        exact ⟨hY3.out, j1⟩
    case rest =>
      obtain ⟨hY1, i3⟩ := hcut
      obtain ⟨w1, hw1⟩ : ∃ w1, w1 = wc := ⟨wc, rfl⟩
      subst hw1
      clear hY hP c3 b0 b1 bl k0 k1 k2 k3 hqb c0' c1 c2 c4 c5 hq f3 f4 f5
      have hq : xb < w1.heap.size := block_lt_of_cell i3
      have f3 : w1.frozen? ⟨xb, 3, none⟩ = false := by
        obtain ⟨_, _, _, _, _, _, hf, _⟩ := hY1.cells
        exact hf 3
      have hY2 := hY1.pop i3 h0
      replace hY1 := Lib.hid hY1
      by_cases ho : oc = 1
      · subst ho
        obtain rfl : hn = 1 := by omega
        rw [if_pos rfl] at hY2
        replace hY2 := Lib.hid hY2
        go_wp2_with fail
        go_ret
        exact ⟨rfl, hfin.out _ _ _ _ hY2.out (by omega)⟩
      · rw [if_neg ho] at hY2
        replace hY2 := Lib.hid hY2
        go_wp2_with fail
        go_ret
        exact ⟨rfl, hfin.out _ _ _ _ hY2.out (by omega)⟩
  · obtain rfl : hn = 0 := by omega
    replace hY := Lib.hid hY
    clear hpos
    go_wp2_with fail
    go_ret
    exact ⟨rfl, hfin.out _ _ _ _ hY.out (by omega)⟩
set_option maxRecDepth 100000 in
set_option maxHeartbeats 4000000 in
theorem does10_6 (h : PY w0 w xb p t ai K c0 k C C dr dr) (hk : k < 300) (x1 x2 : Str) (aft : Bool) :
    Calls Try.prog 35 #[wobj xb, actV (6, x1, x2, aft)] w (PEnd w0 xb p t ai K c0 (k + 1)) := by
  unfold wobj actV
  simp only
  go_enter Try.func35, Try.ntmps35
  go_upto_region 1 with fail
  have hY := h.alloc (.cells #[.int .i64 6, .string x1, .string x2, .bool aft] 57)
  generalize w.alloc (.cells #[.int .i64 6, .string x1, .string x2, .bool aft] 57) = W0 at *
  generalize w.heap.size = bx at *
  obtain ⟨K2, hK2⟩ : ∃ K2, K2 = K ++ [(bx, Obj.cells #[.int .i64 6, .string x1, .string x2, .bool aft] 57)] := ⟨_, rfl⟩
  rw [← hK2] at hY
  have hfin : Hid (∀ W C' k' d', PY w0 W xb p t ai K2 c0 k' C' C' d' d' → k' ≤ k + 1 → ∃ C' dr, PY w0 W xb p t ai K c0 (k + 1) C' C' dr dr) := Lib.hid fun W C' k' d' hW hk' => ⟨C', d', (hW.keepK (fun y hy => by rw [hK2]; simp [hy])).up hk'⟩
  have hkx : Hid (∀ W k' C' T' d' x' K3, PY w0 W xb p t ai K3 c0 k' C' T' d' x' → (∀ y, y ∈ K2 → y ∈ K3) → W.cell? ⟨bx, 0, none⟩ = some (.int .i64 6) ∧ W.cell? ⟨bx, 1, none⟩ = some (.string x1) ∧ W.cell? ⟨bx, 2, none⟩ = some (.string x2) ∧ W.cell? ⟨bx, 3, none⟩ = some (.bool aft) ∧ bx < W.heap.size) := Lib.hid fun W k' C' T' d' x' K3 hW hK3 => by
    have := hW.box (y := (bx, .cells #[.int .i64 6, .string x1, .string x2, .bool aft] 57)) (hK3 _ (by rw [hK2]; simp))
    exact act_box (x := (6, x1, x2, aft)) this
  clear hK2 h
  obtain ⟨k0, k1, k2, k3, hqb⟩ := hkx.out _ _ _ _ _ _ _ hY (fun _ hy => hy)
  obtain ⟨oa, oc, hn, wa, wcp, cl, ⟨c0', c1, c2, c3, c4, c5, hq⟩, ⟨f3, f4, f5⟩, hR⟩ := hY.view (by omega)
  have hP := Lib.hid (hY.drop (by omega))
  replace hY := Lib.hid hY
  clear hR
  go_wp2_with fail
  refine hP.out.mono ?_
  clear hP k0 k1 k2 k3 hqb c0' c1 c2 c3 c4 c5 hq f3 f4 f5
  rintro z w1 ⟨rfl, hY1⟩
  obtain ⟨k0, k1, k2, k3, hqb⟩ := hkx.out _ _ _ _ _ _ _ hY1 (fun _ hy => hy)
  obtain ⟨oa, oc, hn, wa, wcp, cl, ⟨c0', c1, c2, c3, c4, c5, hq⟩, ⟨f3, f4, f5⟩, hR⟩ := hY1.view (by omega)
  have hY2 := (hY1.setD true).setW0
  have hc5 := hY1.setD true
  obtain ⟨_, _, _, _, _, ⟨_, _, _, _, g4, _, gq⟩, gf, _⟩ := hc5.cells
  replace gf := gf 4
  clear hc5
  replace hY2 := Lib.hid hY2
  replace hY1 := Lib.hid hY1
  clear hR
  go_wp2_with fail
  go_ret
  exact ⟨rfl, hfin.out _ _ _ _ hY2.out (by omega)⟩
set_option maxRecDepth 100000 in
set_option maxHeartbeats 4000000 in
theorem does10_n (h : PY w0 w xb p t ai K c0 k C C dr dr) (hk : k < 300) (dd : Int) (x1 x2 : Str) (aft : Bool) (hd0 : dd ≠ 0) (hd1 : dd ≠ 1) (hd2 : dd ≠ 2) (hd3 : dd ≠ 3) (hd4 : dd ≠ 4) (hd5 : dd ≠ 5) (hd6 : dd ≠ 6) :
    Calls Try.prog 35 #[wobj xb, actV (dd, x1, x2, aft)] w (PEnd w0 xb p t ai K c0 (k + 1)) := by
  unfold wobj actV
  simp only
  have e0 : (dd == 0) = false := by simpa using hd0
  replace hd0 := Lib.hid hd0
  have e1 : (dd == 1) = false := by simpa using hd1
  replace hd1 := Lib.hid hd1
  have e2 : (dd == 2) = false := by simpa using hd2
  replace hd2 := Lib.hid hd2
  have e3 : (dd == 3) = false := by simpa using hd3
  replace hd3 := Lib.hid hd3
  have e4 : (dd == 4) = false := by simpa using hd4
  replace hd4 := Lib.hid hd4
  have e5 : (dd == 5) = false := by simpa using hd5
  replace hd5 := Lib.hid hd5
  have e6 : (dd == 6) = false := by simpa using hd6
  replace hd6 := Lib.hid hd6
  go_enter Try.func35, Try.ntmps35
  go_upto_region 1 with fail
  have hY := h.alloc (.cells #[.int .i64 dd, .string x1, .string x2, .bool aft] 57)
  generalize w.alloc (.cells #[.int .i64 dd, .string x1, .string x2, .bool aft] 57) = W0 at *
  generalize w.heap.size = bx at *
  obtain ⟨K2, hK2⟩ : ∃ K2, K2 = K ++ [(bx, Obj.cells #[.int .i64 dd, .string x1, .string x2, .bool aft] 57)] := ⟨_, rfl⟩
  rw [← hK2] at hY
  have hfin : Hid (∀ W C' k' d', PY w0 W xb p t ai K2 c0 k' C' C' d' d' → k' ≤ k + 1 → ∃ C' dr, PY w0 W xb p t ai K c0 (k + 1) C' C' dr dr) := Lib.hid fun W C' k' d' hW hk' => ⟨C', d', (hW.keepK (fun y hy => by rw [hK2]; simp [hy])).up hk'⟩
  have hkx : Hid (∀ W k' C' T' d' x' K3, PY w0 W xb p t ai K3 c0 k' C' T' d' x' → (∀ y, y ∈ K2 → y ∈ K3) → W.cell? ⟨bx, 0, none⟩ = some (.int .i64 dd) ∧ W.cell? ⟨bx, 1, none⟩ = some (.string x1) ∧ W.cell? ⟨bx, 2, none⟩ = some (.string x2) ∧ W.cell? ⟨bx, 3, none⟩ = some (.bool aft) ∧ bx < W.heap.size) := Lib.hid fun W k' C' T' d' x' K3 hW hK3 => by
    have := hW.box (y := (bx, .cells #[.int .i64 dd, .string x1, .string x2, .bool aft] 57)) (hK3 _ (by rw [hK2]; simp))
    exact act_box (x := (dd, x1, x2, aft)) this
  clear hK2 h
  obtain ⟨k0, k1, k2, k3, hqb⟩ := hkx.out _ _ _ _ _ _ _ hY (fun _ hy => hy)
  obtain ⟨oa, oc, hn, wa, wcp, cl, ⟨c0', c1, c2, c3, c4, c5, hq⟩, ⟨f3, f4, f5⟩, hR⟩ := hY.view (by omega)
  replace hY := Lib.hid hY
  clear hR
  go_wp2_with fail
  go_ret
  exact ⟨rfl, hfin.out _ _ _ _ hY.out (by omega)⟩
end
end Go.Proofs.Ytlhobbfncjjeaaa
