/- ArtPlays: the method 'one' of the law's pair, act by act. -/
import Derived.Test.YtmhlokomlngdmaaGreatArtPv
import Derived.Test.YtmhlokomlngdmaaGreatHeldG
import Derived.Deep.RegionLaw
import Derived.Deep.RegionHeld3
namespace Go.Proofs.YtmhlokomlngdmaaGreat
open Go.RowKit
section
variable {P : Program} (w : World) {ops : Array Oper} {rest : List Oper} {o : Oper} {a : Act} {Q : Exit → Act → World → Prop}
/-- An append whose run is known, as one step of a region that draws its order. -/
theorem step_append_run {K : Act → World → Prop} {E : Prop} (hgd : o.guard = none) (s x : Operand) (t : TypeId) (ho : o.op = .call { callee := .builtin .append, args := #[s, x], argTypes := #[t, t] })
    (v u r : Value) (w' : World) (hs : a.eval s = v) (hx : a.eval x = u) (hr : (Builtin.append_ #[t, t] o.type #[v, u]).run P w = .ok r w') (h : K (a.put o.dst r) w') :
    if Region.wanted o (yielded ops a.tmps) = true then Oper.wp P o a w K Q else E := by
  have hw : Region.wanted o (yielded ops a.tmps) = true := by simp [Region.wanted, hgd]
  rw [if_pos hw]
  unfold Oper.wp execOp
  simp only [ho, resolve, invoke, builtin, Sem.run_bind, Sem.run_pure, Result.andThen_ok, List.map_toArray, List.map_cons, List.map_nil, hs, hx, hr]
  exact h
end
theorem set4_other {w : World} {b q o : Nat} {u v x y z : Value} (h : q ≠ b) (hc : w.cell? ⟨q, o, none⟩ = some z) : ((((w.setCell ⟨b, 0, none⟩ u).setCell ⟨b, 1, none⟩ v).setCell ⟨b, 2, none⟩ x).setCell ⟨b, 3, none⟩ y).cell? ⟨q, o, none⟩ = some z := by
  rw [World.cell?_of_block (w := w) (by rw [heap_set_other _ _ h, heap_set_other _ _ h, heap_set_other _ _ h, heap_set_other _ _ h])]
  exact hc
section
variable {w0 w w' : World} {xb t ai dd c0 k : Nat} {K : List (Nat × Obj)} {g gd : Bool} {C L : Cont} {no : Nat} {M H : List Hd}
theorem QX.kadd {T : TS} {dI : ArD} {oa : Option Addr} {oc : Nat} {wa : Option Addr} {wc : Nat} (h : QX w0 w xb t ai dd K c0 k g C gd L no M H T dI oa oc wa wc) (hb : Below w.heap.size w w') {b : Nat} {o : Obj} (hbb : w.heap.size ≤ b) (hbo : w'.heap[b]? = some o) : QX w0 w' xb t ai dd (K ++ [(b, o)]) c0 k g C gd L no M H T dI oa oc wa wc := by
  have hf := h.far b hbb
  replace h := h.below hb
  refine ⟨h.tq, h.tt, h.fl, h.dl, h.hI, h.hm, h.xr, h.xk, h.oth, h.dr, h.dk, h.kp, h.lk, h.hk, h.ks, fun y hy => ?_⟩
  rcases List.mem_append.1 hy with hy | hy
  · exact h.kk y hy
  · simp at hy
    subst hy
    exact ⟨hf, hbo⟩
theorem QX.kdrop {K' : List (Nat × Obj)} {T : TS} {dI : ArD} {oa : Option Addr} {oc : Nat} {wa : Option Addr} {wc : Nat} (h : QX w0 w xb t ai dd K c0 k g C gd L no M H T dI oa oc wa wc) (hK : ∀ y, y ∈ K' → y ∈ K) : QX w0 w xb t ai dd K' c0 k g C gd L no M H T dI oa oc wa wc :=
  ⟨h.tq, h.tt, h.fl, h.dl, h.hI, h.hm, h.xr, h.xk, h.oth, h.dr, h.dk, h.kp, h.lk, h.hk, h.ks, fun y hy => h.kk y (hK y hy)⟩
theorem QY.kdrop {K' : List (Nat × Obj)} (h : QY w0 w xb t ai dd K c0 k g C gd L no M H) (hK : ∀ y, y ∈ K' → y ∈ K) : QY w0 w xb t ai dd K' c0 k g C gd L no M H := by
  obtain ⟨T, dI, oa, oc, wa, wc, h⟩ := h
  exact ⟨T, dI, oa, oc, wa, wc, h.kdrop hK⟩
theorem QY.kadd (h : QY w0 w xb t ai dd K c0 k g C gd L no M H) (hb : Below w.heap.size w w') {b : Nat} {o : Obj} (hbb : w.heap.size ≤ b) (hbo : w'.heap[b]? = some o) : QY w0 w' xb t ai dd (K ++ [(b, o)]) c0 k g C gd L no M H := by
  obtain ⟨T, dI, oa, oc, wa, wc, h⟩ := h
  exact ⟨T, dI, oa, oc, wa, wc, h.kadd hb hbb hbo⟩
theorem QS.alloc (h : QS w0 w xb t ai dd K c0 k) (o : Obj) : QS w0 (w.alloc o) xb t ai dd (K ++ [(w.heap.size, o)]) c0 k := by
  obtain ⟨g, C, L, H, h, hp⟩ := h
  exact ⟨g, C, L, H, h.kadd ((Below.refl _ _).alloc (Nat.le_refl _) o) (Nat.le_refl _) (heap_alloc_new _ _), hp⟩
theorem QS.kdrop {K' : List (Nat × Obj)} (h : QS w0 w xb t ai dd K c0 k) (hK : ∀ y, y ∈ K' → y ∈ K) : QS w0 w xb t ai dd K' c0 k := by
  obtain ⟨g, C, L, H, h, hp⟩ := h
  exact ⟨g, C, L, H, h.kdrop hK, hp⟩
theorem QY.up {k' : Nat} (h : QY w0 w xb t ai dd K c0 k g C gd L no M H) (hk : k ≤ k') : QY w0 w xb t ai dd K c0 k' g C gd L no M H := by
  obtain ⟨T, dI, oa, oc, wa, wc, h⟩ := h
  exact ⟨T, dI, oa, oc, wa, wc, h.up hk⟩
theorem QY.xv (h : QY w0 w xb t ai dd K c0 k g C gd L no M H) : XV w xb t ai dd K := by
  obtain ⟨T, dI, oa, oc, wa, wc, h⟩ := h
  exact h.xv
def OEnd (w0 : World) (xb t ai dd : Nat) (K : List (Nat × Obj)) (c0 k : Nat) (e : Ending) (w' : World) : Prop := e = .returned (.bool true) ∧ QS w0 w' xb t ai dd K c0 k
-- <<a0
set_option maxRecDepth 100000 in
set_option maxHeartbeats 4000000 in
theorem one12_0 (h : QS w0 w xb t ai dd K c0 k) (hk : k < 300) (hc : c0 ≤ 100000) (x1 x2 : Str) (aft : Bool) (hkey : x1.size ≤ 60) :
    Calls Tryz.prog 11 #[.pointer (some ⟨xb, 0, none⟩), .agg #[.int .u8 0, .string x1, .string x2, .bool aft]] w (OEnd w0 xb t ai dd K c0 (k + 1)) := by
  go_enter Tryz.func11, Tryz.ntmps11
  go_upto_region 1 with fail
  have hY := h.alloc (.cells #[.int .u8 0, .string x1, .string x2, .bool aft] 47)
  generalize w.alloc (.cells #[.int .u8 0, .string x1, .string x2, .bool aft] 47) = W0 at *
  generalize w.heap.size = bx at *
  obtain ⟨K2, hK2⟩ : ∃ K2, K2 = K ++ [(bx, Obj.cells #[.int .u8 0, .string x1, .string x2, .bool aft] 47)] := ⟨_, rfl⟩
  rw [← hK2] at hY
  have hfin : Hid (∀ W k', QS w0 W xb t ai dd K2 c0 k' → k' ≤ k + 1 → QS w0 W xb t ai dd K c0 (k + 1)) := Lib.hid fun W k' hW hk' => (hW.kdrop (fun y hy => by rw [hK2]; simp [hy])).up hk'
  have hkx : Hid (∀ W K3, XV W xb t ai dd K3 → (∀ y, y ∈ K2 → y ∈ K3) → W.cell? ⟨bx, 0, none⟩ = some (.int .u8 0) ∧ W.cell? ⟨bx, 1, none⟩ = some (.string x1) ∧ W.cell? ⟨bx, 2, none⟩ = some (.string x2) ∧ W.cell? ⟨bx, 3, none⟩ = some (.bool aft) ∧ bx < W.heap.size) := Lib.hid fun W K3 hW hK3 => by
    have := hW.kk (bx, .cells #[.int .u8 0, .string x1, .string x2, .bool aft] 47) (hK3 _ (by rw [hK2]; simp))
    obtain ⟨a0, a1, a2, a3, a4, _⟩ := cells4 this
    exact ⟨a0, a1, a2, a3, a4⟩
  clear hK2 h
  obtain ⟨g, C, L, H, ⟨T, dI, oa, oc, wa, wcp, hX⟩, hp⟩ := hY
  have hv := hX.xv
  obtain ⟨k0, k1, k2, k3, hqb⟩ := hkx.out _ _ hv (fun _ hy => hy)
  have v0 := hv.c0
  have v1 := hv.c1
  have v2 := hv.c2
  have hq := hv.xq
  have hdq := hv.dq
  clear hv
  have hlen : C.length ≤ 100000 := by have := hX.lk; have := hp.length_eq; omega
  have hHk := hX.hk
  have hroom : g = false → nodesN C + H.length ≤ c0 := fun hg => by subst hg; have := hX.room.2.2; omega
  obtain ⟨hs1, hs2⟩ := put_same hp hX.tq.cs g hroom x1 x2
  have hP := (hX.below (Below.refl W0.heap.size W0).drew).put x1 x2 (by omega) hlen
  obtain ⟨C1, hC1⟩ : ∃ D, D = (if putK g C H.length c0 x1 x2 = true then cput C x1 x2 else C) := ⟨_, rfl⟩
  have hpm : Hid ((if dputK g L H.length c0 x1 x2 = true then cwith L x1 x2 else L).Perm C1) := Lib.hid (by
    rw [hC1, hs2]
    split
    · exact cwith_perm hp x1 x2
    · exact hp)
  obtain ⟨⟨ov, hb, ec⟩, hR⟩ : ∃ R, R = putR g C H.length c0 x1 x2 := ⟨_, rfl⟩
  rw [← hR] at hP hs1
  rw [← hC1] at hP
  unfold tup3 at hP
  simp only at hP
  replace hP := Lib.hid hP
  replace hs1 := Lib.hid hs1
  replace hX := Lib.hid hX
  clear hs2 hR hC1 hroom hlen hp
  go_upto_region 3 with fail
  go_cut [5, 6, 7] (fun v5 v6 v7 wz => v5 = .string ov ∧ v6 = .bool hb ∧ v7 = .int .i64 ec ∧ QY w0 wz xb t ai dd K2 c0 k g C1 g L H.length H H)
  case first =>
    go_region_held3 (fun w' => w'.cell? ⟨xb, 0, none⟩ = some (.pointer (some ⟨t, 0, none⟩)) ∧ w'.cell? ⟨bx, 1, none⟩ = some (.string x1) ∧ w'.cell? ⟨bx, 2, none⟩ = some (.string x2)) (first | exact ⟨v0, k1, k2⟩ | exact ⟨j0, j1, j2⟩ | go_keep) (first
      | (go_at_call 18; refine hP.out.mono ?_; rintro z w1 ⟨rfl, hY1⟩; have hv1 := hY1.xv; obtain ⟨_, b1, b2, b3, _⟩ := hkx.out _ _ hv1 (fun _ hy => hy); have j0 := hv1.c0; have j1 := b1; have j2 := b2; replace hY1 := Lib.hid hY1; clear hv1))
    all_goals
      go_wp2_with fail
      go_meet
      exact ⟨rfl, rfl, rfl, hY1.out⟩
  case rest =>
    obtain ⟨rfl, rfl, rfl, hY1⟩ := hcut
    obtain ⟨w1, hw1⟩ : ∃ w1, w1 = wc := ⟨wc, rfl⟩
    subst hw1
    clear hP hX k0 k1 k2 k3 hqb v0 v1 v2 hq hdq
    obtain ⟨T, dI, oa, oc, wa, wcp, hX⟩ := hY1
    have hv := hX.xv
    obtain ⟨k0, k1, k2, k3, hqb⟩ := hkx.out _ _ hv (fun _ hy => hy)
    have v0 := hv.c0
    have v1 := hv.c1
    have v2 := hv.c2
    have hq := hv.xq
    have hdq := hv.dq
    clear hv
    have hP := (hX.below (Below.refl w1.heap.size w1).drew).dput (by omega) ⟨hc, by omega⟩ x1 x2 hkey
    rw [hs1.out] at hP
    unfold tup3 at hP
    simp only at hP
    replace hP := Lib.hid hP
    replace hX := Lib.hid hX
    go_upto_region 4 with fail
    go_cut [8, 9, 10] (fun v5 v6 v7 wz => v5 = .string ov ∧ v6 = .bool hb ∧ v7 = .int .i64 ec ∧ QS w0 wz xb t ai dd K2 c0 (k + 1))
    case first =>
      go_region_held3 (fun w' => w'.cell? ⟨xb, 1, none⟩ = some (.pointer (some ⟨dd, 0, none⟩)) ∧ w'.cell? ⟨bx, 1, none⟩ = some (.string x1) ∧ w'.cell? ⟨bx, 2, none⟩ = some (.string x2)) (first | exact ⟨v1, k1, k2⟩ | exact ⟨j0, j1, j2⟩ | go_keep) (first
        | (go_at_call 31; refine hP.out.mono ?_; rintro z w1 ⟨rfl, hY2⟩; have hv1 := hY2.xv; obtain ⟨_, b1, b2, b3, _⟩ := hkx.out _ _ hv1 (fun _ hy => hy); have j0 := hv1.c1; have j1 := b1; have j2 := b2; replace hY2 := Lib.hid hY2; clear hv1))
      all_goals
        go_wp2_with fail
        go_meet
        exact ⟨rfl, rfl, rfl, g, C1, _, H, hY2.out, hpm.out⟩
    case rest =>
      obtain ⟨rfl, rfl, rfl, hY2⟩ := hcut
      obtain ⟨w2, hw2⟩ : ∃ w2, w2 = wc := ⟨wc, rfl⟩
      subst hw2
      replace hY2 := Lib.hid hY2
      clear hP hX hs1 hpm k0 k1 k2 k3 hqb v0 v1 v2 hq hdq
      go_wp2_with fail
      go_ret
      exact ⟨by simp, hfin.out _ _ hY2.out (Nat.le_refl _)⟩
-- >>a0
-- <<a1
set_option maxRecDepth 100000 in
set_option maxHeartbeats 4000000 in
theorem one12_1 (h : QS w0 w xb t ai dd K c0 k) (hk : k < 300) (_hc : c0 ≤ 100000) (x1 x2 : Str) (aft : Bool) (hkey : x1.size ≤ 60) :
    Calls Tryz.prog 11 #[.pointer (some ⟨xb, 0, none⟩), .agg #[.int .u8 1, .string x1, .string x2, .bool aft]] w (OEnd w0 xb t ai dd K c0 (k + 1)) := by
  go_enter Tryz.func11, Tryz.ntmps11
  go_upto_region 1 with fail
  have hY := h.alloc (.cells #[.int .u8 1, .string x1, .string x2, .bool aft] 47)
  generalize w.alloc (.cells #[.int .u8 1, .string x1, .string x2, .bool aft] 47) = W0 at *
  generalize w.heap.size = bx at *
  obtain ⟨K2, hK2⟩ : ∃ K2, K2 = K ++ [(bx, Obj.cells #[.int .u8 1, .string x1, .string x2, .bool aft] 47)] := ⟨_, rfl⟩
  rw [← hK2] at hY
  have hfin : Hid (∀ W k', QS w0 W xb t ai dd K2 c0 k' → k' ≤ k + 1 → QS w0 W xb t ai dd K c0 (k + 1)) := Lib.hid fun W k' hW hk' => (hW.kdrop (fun y hy => by rw [hK2]; simp [hy])).up hk'
  have hkx : Hid (∀ W K3, XV W xb t ai dd K3 → (∀ y, y ∈ K2 → y ∈ K3) → W.cell? ⟨bx, 0, none⟩ = some (.int .u8 1) ∧ W.cell? ⟨bx, 1, none⟩ = some (.string x1) ∧ W.cell? ⟨bx, 2, none⟩ = some (.string x2) ∧ W.cell? ⟨bx, 3, none⟩ = some (.bool aft) ∧ bx < W.heap.size) := Lib.hid fun W K3 hW hK3 => by
    have := hW.kk (bx, .cells #[.int .u8 1, .string x1, .string x2, .bool aft] 47) (hK3 _ (by rw [hK2]; simp))
    obtain ⟨a0, a1, a2, a3, a4, _⟩ := cells4 this
    exact ⟨a0, a1, a2, a3, a4⟩
  clear hK2 h
  obtain ⟨g, C, L, H, ⟨T, dI, oa, oc, wa, wcp, hX⟩, hp⟩ := hY
  have hv := hX.xv
  obtain ⟨k0, k1, k2, k3, hqb⟩ := hkx.out _ _ hv (fun _ hy => hy)
  have v0 := hv.c0
  have v1 := hv.c1
  have v2 := hv.c2
  have hq := hv.xq
  have hdq := hv.dq
  clear hv
  have hce := cget_perm hp hX.tq.cs x1
  obtain ⟨gv, hgv⟩ : ∃ o, o = (cget C x1).getD s0 := ⟨_, rfl⟩
  obtain ⟨gb, hgb⟩ : ∃ o, o = (cget C x1).isSome := ⟨_, rfl⟩
  have hP := (hX.below (Below.refl W0.heap.size W0).drew).delete x1 (by omega)
  rw [← hgv, ← hgb] at hP
  have hpm := Lib.hid (cdel_perm hp x1)
  replace hP := Lib.hid hP
  replace hgv := Lib.hid hgv
  replace hgb := Lib.hid hgb
  replace hce := Lib.hid hce
  replace hX := Lib.hid hX
  clear hp
  go_upto_region 7 with fail
  go_cut [11, 12] (fun v5 v6 wz => v5 = .string gv ∧ v6 = .bool gb ∧ QY w0 wz xb t ai dd K2 c0 k g (cdel C x1) g L H.length H H)
  case first =>
    go_region_held3 (fun w' => w'.cell? ⟨xb, 0, none⟩ = some (.pointer (some ⟨t, 0, none⟩)) ∧ w'.cell? ⟨bx, 1, none⟩ = some (.string x1)) (first | exact ⟨v0, k1⟩ | exact ⟨j0, j1⟩ | go_keep) (first
      | (go_at_call 24; refine hP.out.mono ?_; rintro z w1 ⟨rfl, hY1⟩; have hv1 := hY1.xv; obtain ⟨_, b1, b2, b3, _⟩ := hkx.out _ _ hv1 (fun _ hy => hy); have j0 := hv1.c0; have j1 := b1; replace hY1 := Lib.hid hY1; clear hv1))
    all_goals
      go_wp2_with fail
      go_meet
      exact ⟨rfl, rfl, hY1.out⟩
  case rest =>
    obtain ⟨rfl, rfl, hY1⟩ := hcut
    obtain ⟨w1, hw1⟩ : ∃ w1, w1 = wc := ⟨wc, rfl⟩
    subst hw1
    clear hP hX k0 k1 k2 k3 hqb v0 v1 v2 hq hdq
    obtain ⟨T, dI, oa, oc, wa, wcp, hX⟩ := hY1
    have hv := hX.xv
    obtain ⟨k0, k1, k2, k3, hqb⟩ := hkx.out _ _ hv (fun _ hy => hy)
    have v0 := hv.c0
    have v1 := hv.c1
    have v2 := hv.c2
    have hq := hv.xq
    have hdq := hv.dq
    clear hv
    have hP := (hX.below (Below.refl w1.heap.size w1).drew).ddel (by omega) x1
    rw [hce.out, ← hgv.out, ← hgb.out] at hP
    replace hP := Lib.hid hP
    replace hX := Lib.hid hX
    go_upto_region 8 with fail
    go_cut [13, 14] (fun v5 v6 wz => v5 = .string gv ∧ v6 = .bool gb ∧ QS w0 wz xb t ai dd K2 c0 k)
    case first =>
      go_region_held3 (fun w' => w'.cell? ⟨xb, 1, none⟩ = some (.pointer (some ⟨dd, 0, none⟩)) ∧ w'.cell? ⟨bx, 1, none⟩ = some (.string x1)) (first | exact ⟨v1, k1⟩ | exact ⟨j0, j1⟩ | go_keep) (first
        | (go_at_call 32; refine hP.out.mono ?_; rintro z w1 ⟨rfl, hY2⟩; have hv1 := hY2.xv; obtain ⟨_, b1, b2, b3, _⟩ := hkx.out _ _ hv1 (fun _ hy => hy); have j0 := hv1.c1; have j1 := b1; replace hY2 := Lib.hid hY2; clear hv1))
      all_goals
        go_wp2_with fail
        go_meet
        exact ⟨rfl, rfl, g, _, _, H, hY2.out, hpm.out⟩
    case rest =>
      obtain ⟨rfl, rfl, hY2⟩ := hcut
      obtain ⟨w2, hw2⟩ : ∃ w2, w2 = wc := ⟨wc, rfl⟩
      subst hw2
      replace hY2 := Lib.hid hY2
      clear hP hX hpm k0 k1 k2 k3 hqb v0 v1 v2 hq hdq
      go_wp2_with fail
      go_ret
      exact ⟨by simp, hfin.out _ _ hY2.out (by omega)⟩
-- >>a1
-- <<a2
set_option maxRecDepth 100000 in
set_option maxHeartbeats 4000000 in
theorem one12_2 (h : QS w0 w xb t ai dd K c0 k) (hk : k < 300) (_hc : c0 ≤ 100000) (x1 x2 : Str) (aft : Bool) (hkey : x1.size ≤ 60) :
    Calls Tryz.prog 11 #[.pointer (some ⟨xb, 0, none⟩), .agg #[.int .u8 2, .string x1, .string x2, .bool aft]] w (OEnd w0 xb t ai dd K c0 (k + 1)) := by
  go_enter Tryz.func11, Tryz.ntmps11
  go_upto_region 1 with fail
  have hY := h.alloc (.cells #[.int .u8 2, .string x1, .string x2, .bool aft] 47)
  generalize w.alloc (.cells #[.int .u8 2, .string x1, .string x2, .bool aft] 47) = W0 at *
  generalize w.heap.size = bx at *
  obtain ⟨K2, hK2⟩ : ∃ K2, K2 = K ++ [(bx, Obj.cells #[.int .u8 2, .string x1, .string x2, .bool aft] 47)] := ⟨_, rfl⟩
  rw [← hK2] at hY
  have hfin : Hid (∀ W k', QS w0 W xb t ai dd K2 c0 k' → k' ≤ k + 1 → QS w0 W xb t ai dd K c0 (k + 1)) := Lib.hid fun W k' hW hk' => (hW.kdrop (fun y hy => by rw [hK2]; simp [hy])).up hk'
  have hkx : Hid (∀ W K3, XV W xb t ai dd K3 → (∀ y, y ∈ K2 → y ∈ K3) → W.cell? ⟨bx, 0, none⟩ = some (.int .u8 2) ∧ W.cell? ⟨bx, 1, none⟩ = some (.string x1) ∧ W.cell? ⟨bx, 2, none⟩ = some (.string x2) ∧ W.cell? ⟨bx, 3, none⟩ = some (.bool aft) ∧ bx < W.heap.size) := Lib.hid fun W K3 hW hK3 => by
    have := hW.kk (bx, .cells #[.int .u8 2, .string x1, .string x2, .bool aft] 47) (hK3 _ (by rw [hK2]; simp))
    obtain ⟨a0, a1, a2, a3, a4, _⟩ := cells4 this
    exact ⟨a0, a1, a2, a3, a4⟩
  clear hK2 h
  obtain ⟨g, C, L, H, ⟨T, dI, oa, oc, wa, wcp, hX⟩, hp⟩ := hY
  have hv := hX.xv
  obtain ⟨k0, k1, k2, k3, hqb⟩ := hkx.out _ _ hv (fun _ hy => hy)
  have v0 := hv.c0
  have v1 := hv.c1
  have v2 := hv.c2
  have hq := hv.xq
  have hdq := hv.dq
  clear hv
  have hce := cget_perm hp hX.tq.cs x1
  obtain ⟨gv, hgv⟩ : ∃ o, o = (cget C x1).getD s0 := ⟨_, rfl⟩
  obtain ⟨gb, hgb⟩ : ∃ o, o = (cget C x1).isSome := ⟨_, rfl⟩
  have hP := (hX.below (Below.refl W0.heap.size W0).drew).get x1 (Nat.le_trans hkey (by decide))
  rw [← hgv, ← hgb] at hP
  replace hP := Lib.hid hP
  replace hgv := Lib.hid hgv
  replace hgb := Lib.hid hgb
  replace hce := Lib.hid hce
  replace hp := Lib.hid hp
  replace hX := Lib.hid hX
  go_upto_region 11 with fail
  go_cut [15, 16, 17] (fun v5 v6 v7 wz => v5 = .string gv ∧ v6 = .bool gb ∧ v7 = .bool g ∧ QY w0 wz xb t ai dd K2 c0 k g C g L H.length H H)
  case first =>
    go_region_held3 (fun w' => w'.cell? ⟨xb, 0, none⟩ = some (.pointer (some ⟨t, 0, none⟩)) ∧ w'.cell? ⟨bx, 1, none⟩ = some (.string x1)) (first | exact ⟨v0, k1⟩ | exact ⟨j0, j1⟩ | go_keep) (first
      | (go_at_call 26; refine hP.out.mono ?_; rintro z w1 ⟨rfl, hb1⟩; have hbb := (Below.refl W0.heap.size W0).drew.trans hb1; have j0 := keep hbb v0; have j1 := keep hbb k1; have hY1 := Lib.hid (hX.out.below hbb); clear hb1 hbb))
    all_goals
      go_wp2_with fail
      go_meet
      exact ⟨rfl, rfl, rfl, _, _, _, _, _, _, hY1.out⟩
  case rest =>
    obtain ⟨rfl, rfl, rfl, hY1⟩ := hcut
    obtain ⟨w2, hw2⟩ : ∃ w2, w2 = wc := ⟨wc, rfl⟩
    subst hw2
    clear hP hX k0 k1 k2 k3 hqb v0 v1 v2 hq hdq
    obtain ⟨T, dI, oa, oc, wa, wcp, hX⟩ := hY1
    have hv := hX.xv
    obtain ⟨k0, k1, k2, k3, hqb⟩ := hkx.out _ _ hv (fun _ hy => hy)
    have v0 := hv.c0
    have v1 := hv.c1
    have v2 := hv.c2
    have hq := hv.xq
    have hdq := hv.dq
    clear hv
    have hlk := hX.lk
    have hP := r7get_any wa wcp L x1 w2.drew (hX.kp.1.below (Below.refl w2.heap.size w2).drew) (by omega)
    rw [hce.out, ← hgv.out, ← hgb.out] at hP
    have d0 : w2.cell? ⟨dd, 0, none⟩ = some (.slice wa L.length wcp) := by rw [cell_of_heap hX.dk]; rfl
    obtain ⟨nl, hnl⟩ : ∃ n, n = L.length := ⟨_, rfl⟩
    rw [← hnl] at hP d0
    replace hP := Lib.hid hP
    replace hX := Lib.hid hX
    replace hnl := Lib.hid hnl
    clear hlk
    go_upto_region 12 with fail
    go_cut [18, 19] (fun v5 v6 wz => v5 = .string gv ∧ v6 = .bool gb ∧ QY w0 wz xb t ai dd K2 c0 k g C g L H.length H H)
    case first =>
      go_region_held3 (fun w' => w'.cell? ⟨xb, 1, none⟩ = some (.pointer (some ⟨dd, 0, none⟩)) ∧ w'.cell? ⟨bx, 1, none⟩ = some (.string x1) ∧ w'.cell? ⟨dd, 0, none⟩ = some (.slice wa nl wcp)) (first | exact ⟨v1, k1, d0⟩ | exact ⟨j0, j1, j2⟩ | go_keep) (first
        | (go_at_call 33; refine hP.out.mono ?_; rintro z w1 ⟨rfl, hb1⟩; have hbb := (Below.refl w2.heap.size w2).drew.trans hb1; have j0 := keep hbb v1; have j1 := keep hbb k1; have j2 := keep hbb d0; have hY1 := Lib.hid (hX.out.below hbb); clear hb1 hbb))
      all_goals
        go_wp2_with fail
        go_meet
        exact ⟨rfl, rfl, _, _, _, _, _, _, hY1.out⟩
    case rest =>
      obtain ⟨rfl, rfl, hY2⟩ := hcut
      obtain ⟨w3, hw3⟩ : ∃ w3, w3 = wc := ⟨wc, rfl⟩
      subst hw3
      clear hP hX d0 k0 k1 k2 k3 hqb v0 v1 v2 hq hdq
      obtain ⟨T, dI, oa, oc, wa, wcp, hX⟩ := hY2
      have hv := hX.xv
      obtain ⟨k0, k1, k2, k3, hqb⟩ := hkx.out _ _ hv (fun _ hy => hy)
      have v0 := hv.c0
      have v1 := hv.c1
      have v2 := hv.c2
      have hq := hv.xq
      have hdq := hv.dq
      clear hv
      have d3 : w3.cell? ⟨dd, 3, none⟩ = some (.bool g) := by rw [cell_of_heap hX.dk]; rfl
      have hS : Hid (QS w0 w3 xb t ai dd K2 c0 k) := Lib.hid ⟨g, C, L, H, ⟨_, _, _, _, _, _, hX⟩, hp.out⟩
      clear hX
      go_wp2_with fail
      go_ret
      exact ⟨by simp, hfin.out _ _ hS.out (by omega)⟩
-- >>a2
-- <<a3
set_option maxRecDepth 100000 in
set_option maxHeartbeats 4000000 in
theorem one12_3 (h : QS w0 w xb t ai dd K c0 k) (hk : k < 300) (_hc : c0 ≤ 100000) (x1 x2 : Str) (aft : Bool) (hkey : x1.size ≤ 60) :
    Calls Tryz.prog 11 #[.pointer (some ⟨xb, 0, none⟩), .agg #[.int .u8 3, .string x1, .string x2, .bool aft]] w (OEnd w0 xb t ai dd K c0 (k + 1)) := by
  go_enter Tryz.func11, Tryz.ntmps11
  go_upto_region 1 with fail
  have hY := h.alloc (.cells #[.int .u8 3, .string x1, .string x2, .bool aft] 47)
  generalize w.alloc (.cells #[.int .u8 3, .string x1, .string x2, .bool aft] 47) = W0 at *
  generalize w.heap.size = bx at *
  obtain ⟨K2, hK2⟩ : ∃ K2, K2 = K ++ [(bx, Obj.cells #[.int .u8 3, .string x1, .string x2, .bool aft] 47)] := ⟨_, rfl⟩
  rw [← hK2] at hY
  have hfin : Hid (∀ W k', QS w0 W xb t ai dd K2 c0 k' → k' ≤ k + 1 → QS w0 W xb t ai dd K c0 (k + 1)) := Lib.hid fun W k' hW hk' => (hW.kdrop (fun y hy => by rw [hK2]; simp [hy])).up hk'
  have hkx : Hid (∀ W K3, XV W xb t ai dd K3 → (∀ y, y ∈ K2 → y ∈ K3) → W.cell? ⟨bx, 0, none⟩ = some (.int .u8 3) ∧ W.cell? ⟨bx, 1, none⟩ = some (.string x1) ∧ W.cell? ⟨bx, 2, none⟩ = some (.string x2) ∧ W.cell? ⟨bx, 3, none⟩ = some (.bool aft) ∧ bx < W.heap.size) := Lib.hid fun W K3 hW hK3 => by
    have := hW.kk (bx, .cells #[.int .u8 3, .string x1, .string x2, .bool aft] 47) (hK3 _ (by rw [hK2]; simp))
    obtain ⟨a0, a1, a2, a3, a4, _⟩ := cells4 this
    exact ⟨a0, a1, a2, a3, a4⟩
  clear hK2 h
  obtain ⟨g, C, L, H, ⟨T, dI, oa, oc, wa, wcp, hX⟩, hp⟩ := hY
  have hv := hX.xv
  obtain ⟨k0, k1, k2, k3, hqb⟩ := hkx.out _ _ hv (fun _ hy => hy)
  have v0 := hv.c0
  have v1 := hv.c1
  have v2 := hv.c2
  have hq := hv.xq
  have hdq := hv.dq
  clear hv
  obtain ⟨o, ho⟩ : ∃ o, o = cnext C x1 aft := ⟨_, rfl⟩
  obtain ⟨nk, hnk⟩ : ∃ nk, nk = fK o := ⟨_, rfl⟩
  obtain ⟨nv, hnv⟩ : ∃ nv, nv = fX o := ⟨_, rfl⟩
  obtain ⟨nf, hnf⟩ : ∃ nf, nf = o.isSome := ⟨_, rfl⟩
  have hP := (hX.below (Below.refl W0.heap.size W0).drew).next x1 aft
  rw [← ho, ← hnk, ← hnv, ← hnf] at hP
  have hpv : Hid (ansV (cnext C x1 aft) = .agg #[.int .i64 0, .bool nf, .string nk, .string nv]) := Lib.hid (by
    rw [← ho, hnk, hnv, hnf]
    rfl)
  replace hP := Lib.hid hP
  clear ho hnk hnv hnf
  replace hp := Lib.hid hp
  replace hX := Lib.hid hX
  go_upto_region 15 with fail
  go_cut [20, 21, 22, 23] (fun v5 v6 v7 v8 wz => v5 = .string nk ∧ v6 = .string nv ∧ v7 = .bool nf ∧ v8 = .bool g ∧ QY w0 wz xb t ai dd K2 c0 k g C g L H.length H H)
  case first =>
    go_region_held3 (fun w' => w'.cell? ⟨xb, 0, none⟩ = some (.pointer (some ⟨t, 0, none⟩)) ∧ w'.cell? ⟨bx, 1, none⟩ = some (.string x1) ∧ w'.cell? ⟨bx, 3, none⟩ = some (.bool aft)) (first | exact ⟨v0, k1, k3⟩ | exact ⟨j0, j1, j2⟩ | go_keep) (first
      | (go_at_call 27; refine hP.out.mono ?_; rintro z w1 ⟨rfl, hb1⟩; have hbb := (Below.refl W0.heap.size W0).drew.trans hb1; have j0 := keep hbb v0; have j1 := keep hbb k1; have j2 := keep hbb k3; have hY1 := Lib.hid (hX.out.below hbb); clear hb1 hbb))
    all_goals
      go_wp2_with fail
      go_meet
      exact ⟨rfl, rfl, rfl, rfl, _, _, _, _, _, _, hY1.out⟩
  case rest =>
    obtain ⟨rfl, rfl, rfl, rfl, hY1⟩ := hcut
    obtain ⟨w2, hw2⟩ : ∃ w2, w2 = wc := ⟨wc, rfl⟩
    subst hw2
    clear hP hX k0 k1 k2 k3 hqb v0 v1 v2 hq hdq
    obtain ⟨T, dI, oa, oc, wa, wcp, hX⟩ := hY1
    have hv := hX.xv
    obtain ⟨k0, k1, k2, k3, hqb⟩ := hkx.out _ _ hv (fun _ hy => hy)
    have v0 := hv.c0
    have v1 := hv.c1
    have v2 := hv.c2
    have hq := hv.xq
    have hdq := hv.dq
    clear hv
    have hlk := hX.lk
    have hpl := hp.out.length_eq
    have hG := Lib.hid fun W (hW : Below w2.heap.size w2 W) => least12_any wa wcp L C x1 aft W (hX.kp.1.below hW) (by omega) (fun x hx => Nat.le_trans (hX.ks x hx) (by simp [maxLen])) hX.tq.cs (fun x => hp.out.mem_iff) (by omega) (Nat.le_trans hkey (by simp [maxLen]))
    rw [hpv.out] at hG
    have d0 : w2.cell? ⟨dd, 0, none⟩ = some (.slice wa L.length wcp) := by rw [cell_of_heap hX.dk]; rfl
    obtain ⟨nl, hnl⟩ : ∃ n, n = L.length := ⟨_, rfl⟩
    rw [← hnl] at hG d0
    have nx : xb ≠ w2.heap.size := Nat.ne_of_lt hq
    have ny : bx ≠ w2.heap.size := Nat.ne_of_lt hqb
    have nd : dd ≠ w2.heap.size := Nat.ne_of_lt hdq
    replace hX := Lib.hid hX
    replace hnl := Lib.hid hnl
    clear hlk hpl
    go_upto_region 16 with fail
    go_cut [24] (fun v5 wz => ∃ bb, v5 = .pointer (some ⟨bb, 0, none⟩) ∧ QY w0 wz xb t ai dd (K2 ++ [(bb, .cells #[.int .i64 0, .bool nf, .string nk, .string nv] 87)]) c0 k g C g L H.length H H)
    case first =>
      refine wp_region_held_drew (S := fun w' => w'.cell? ⟨xb, 1, none⟩ = some (.pointer (some ⟨dd, 0, none⟩)) ∧ w'.cell? ⟨bx, 1, none⟩ = some (.string x1) ∧ w'.cell? ⟨bx, 3, none⟩ = some (.bool aft) ∧ w'.cell? ⟨dd, 0, none⟩ = some (.slice wa nl wcp)) rfl ⟨v1, k1, k3, d0⟩ (fun hHeld => ?_)
      refine takeL 0 (by simp only [List.getElem?_toArray, List.getElem?_cons_zero]; rfl) hHeld ?_
      refine ⟨by kernel_rfl, by kernel_rfl, by kernel_rfl, ?_, fun _ _ _ h => h, Or.inl ⟨by rfl, ?_⟩, ?_⟩
      rotate_left 1
      · intro w hSw; (try dsimp only at hSw); go_simp; first | done | with_reducible rfl
      try simp only [Act.put, List.setIfInBounds_toArray, List.set_cons_zero, List.set_cons_succ]
      refine takeL 1 (by simp only [List.getElem?_toArray, List.getElem?_cons_succ, List.getElem?_cons_zero]; rfl) hHeld ?_
      refine ⟨by kernel_rfl, by kernel_rfl, by kernel_rfl, ?_, fun _ _ _ h => h, Or.inl ⟨by rfl, ?_⟩, ?_⟩
      rotate_left 1
      · intro w hSw; (try dsimp only at hSw); go_simp; first | done | with_reducible rfl
      try simp only [Act.put, List.setIfInBounds_toArray, List.set_cons_zero, List.set_cons_succ]
      refine takeL 2 (by simp only [List.getElem?_toArray, List.getElem?_cons_succ, List.getElem?_cons_zero]; rfl) hHeld ?_
      refine ⟨by kernel_rfl, by kernel_rfl, by kernel_rfl, ?_, fun _ _ _ h => h, Or.inl ⟨by rfl, ?_⟩, ?_⟩
      rotate_left 1
      · intro w hSw; (try dsimp only at hSw); go_simp; first | done | with_reducible rfl
      try simp only [Act.put, List.setIfInBounds_toArray, List.set_cons_zero, List.set_cons_succ]
      refine takeL 3 (by simp only [List.getElem?_toArray, List.getElem?_cons_succ, List.getElem?_cons_zero]; rfl) hHeld ?_
      refine ⟨by kernel_rfl, by kernel_rfl, by kernel_rfl, ?_, fun _ _ _ h => h, Or.inl ⟨by rfl, ?_⟩, ?_⟩
      rotate_left 1
      · intro w hSw; (try dsimp only at hSw); obtain ⟨i1, i2, i3, i4⟩ := hSw; go_simp; first | done | with_reducible rfl
      try simp only [Act.put, List.setIfInBounds_toArray, List.set_cons_zero, List.set_cons_succ]
      refine takeL 4 (by simp only [List.getElem?_toArray, List.getElem?_cons_succ, List.getElem?_cons_zero]; rfl) hHeld ?_
      refine ⟨by kernel_rfl, by kernel_rfl, by kernel_rfl, ?_, fun _ _ _ h => h, Or.inl ⟨by rfl, ?_⟩, ?_⟩
      rotate_left 1
      · intro w hSw; (try dsimp only at hSw); go_simp; first | done | with_reducible rfl
      try simp only [Act.put, List.setIfInBounds_toArray, List.set_cons_zero, List.set_cons_succ]
      refine takeL 5 (by simp only [List.getElem?_toArray, List.getElem?_cons_succ, List.getElem?_cons_zero]; rfl) hHeld ?_
      refine ⟨by kernel_rfl, by kernel_rfl, by kernel_rfl, ?_, fun _ _ _ h => h, Or.inl ⟨by rfl, ?_⟩, ?_⟩
      rotate_left 1
      · intro w hSw; (try dsimp only at hSw); go_simp; first | done | with_reducible rfl
      try simp only [Act.put, List.setIfInBounds_toArray, List.set_cons_zero, List.set_cons_succ]
      refine takeL 6 (by simp only [List.getElem?_toArray, List.getElem?_cons_succ, List.getElem?_cons_zero]; rfl) hHeld ?_
      refine ⟨by kernel_rfl, by kernel_rfl, by kernel_rfl, ?_, fun _ _ _ h => h, Or.inl ⟨by rfl, ?_⟩, ?_⟩
      rotate_left 1
      · intro w hSw; (try dsimp only at hSw); obtain ⟨i1, i2, i3, i4⟩ := hSw; go_simp; first | done | with_reducible rfl
      try simp only [Act.put, List.setIfInBounds_toArray, List.set_cons_zero, List.set_cons_succ]
      refine takeL 7 (by simp only [List.getElem?_toArray, List.getElem?_cons_succ, List.getElem?_cons_zero]; rfl) hHeld ?_
      refine ⟨by kernel_rfl, by kernel_rfl, by kernel_rfl, ?_, fun _ _ _ h => h, Or.inl ⟨by rfl, ?_⟩, ?_⟩
      rotate_left 1
      · intro w hSw; (try dsimp only at hSw); go_simp; first | done | with_reducible rfl
      try simp only [Act.put, List.setIfInBounds_toArray, List.set_cons_zero, List.set_cons_succ]
      refine takeL 8 (by simp only [List.getElem?_toArray, List.getElem?_cons_succ, List.getElem?_cons_zero]; rfl) hHeld ?_
      refine ⟨by kernel_rfl, by kernel_rfl, by kernel_rfl, ?_, fun _ _ _ h => h, Or.inl ⟨by rfl, ?_⟩, ?_⟩
      rotate_left 1
      · intro w hSw; (try dsimp only at hSw); obtain ⟨i1, i2, i3, i4⟩ := hSw; go_simp; first | done | with_reducible rfl
      try simp only [Act.put, List.setIfInBounds_toArray, List.set_cons_zero, List.set_cons_succ]
      refine takeL 9 (by simp only [List.getElem?_toArray, List.getElem?_cons_succ, List.getElem?_cons_zero]; rfl) hHeld ?_
      refine ⟨by kernel_rfl, by kernel_rfl, by kernel_rfl, ?_, fun _ _ _ h => h, Or.inl ⟨by rfl, ?_⟩, ?_⟩
      rotate_left 1
      · intro w hSw; (try dsimp only at hSw); go_simp; first | done | with_reducible rfl
      try simp only [Act.put, List.setIfInBounds_toArray, List.set_cons_zero, List.set_cons_succ]
      refine takeL 10 (by simp only [List.getElem?_toArray, List.getElem?_cons_succ, List.getElem?_cons_zero]; rfl) hHeld ?_
      refine ⟨by kernel_rfl, by kernel_rfl, by kernel_rfl, ?_, fun _ _ _ h => h, Or.inl ⟨by rfl, ?_⟩, ?_⟩
      rotate_left 1
      · intro w hSw; (try dsimp only at hSw); obtain ⟨i1, i2, i3, i4⟩ := hSw; go_simp; first | done | with_reducible rfl
      try simp only [Act.put, List.setIfInBounds_toArray, List.set_cons_zero, List.set_cons_succ]
      refine wpAnyH_ready (rs := [11, 12]) (by kernel_rfl) (by simp) ?_
      refine (AllReadyH.cons rfl (fun K hK => ?_) (AllReadyH.cons rfl (fun K hK => ?_) AllReadyH.nil))
      · skip
        have hb0 := (Below.refl w2.heap.size w2).drew
        go_simp
        go_at_call 34
        refine (hG.out _ hb0).mono ?_
        rintro z w3 ⟨rfl, hb3⟩
        have hb5 := hb0.trans (hb3.mono hb0.size)
        have hS1 := And.intro (keep hb5 v1) (And.intro (keep hb5 k1) (And.intro (keep hb5 k3) (keep hb5 d0)))
        replace hb3 := Lib.hid hb3
        go_wp2_with fail
        refine hK.out _ _ hS1 (fun _ => ?_)
        clear hHeld hK K
        have hHeld := hS1
        clear hS1
        try simp only [Act.put, List.setIfInBounds_toArray, List.set_cons_zero, List.set_cons_succ]
        refine readyL 12 (by kernel_rfl) (by simp only [List.getElem?_toArray, List.getElem?_cons_succ, List.getElem?_cons_zero]; rfl) ?_
        intro K hK
        go_simp
        have hb6 := hb5.alloc hb5.size (.cells #[.int .i64 0, .bool false, .string ⟨#[]⟩, .string ⟨#[]⟩] 87)
        have kk := heap_alloc_new w3 (.cells #[.int .i64 0, .bool false, .string ⟨#[]⟩, .string ⟨#[]⟩] 87)
        have lb : w2.heap.size ≤ w3.heap.size := hb5.size
        generalize w3.alloc (.cells #[.int .i64 0, .bool false, .string ⟨#[]⟩, .string ⟨#[]⟩] 87) = w6 at *
        generalize w3.heap.size = bb at *
        have hS1 := And.intro (keep hb6 v1) (And.intro (keep hb6 k1) (And.intro (keep hb6 k3) (keep hb6 d0)))
        refine hK.out _ _ hS1 (fun _ => ?_)
        clear hHeld hK K
        have hHeld := hS1
        clear hS1
        try simp only [Act.put, List.setIfInBounds_toArray, List.set_cons_zero, List.set_cons_succ]
        refine readyL 13 (by kernel_rfl) (by simp only [List.getElem?_toArray, List.getElem?_cons_succ, List.getElem?_cons_zero]; rfl) ?_
        intro K hK
        obtain ⟨i0, i1, i2, i3, i4, i5⟩ := cells4 kk
        obtain ⟨j0, j1, j2, j3⟩ := hHeld
        replace kk := Lib.hid kk
        replace hb0 := Lib.hid hb0
        replace hb5 := Lib.hid hb5
        replace hb6 := Lib.hid hb6
        replace lb := Lib.hid lb
        go_simp
        go_wp2_with fail
        have ex : xb ≠ bb := fun e => by have := lb.out; omega
        have ey : bx ≠ bb := fun e => by have := lb.out; omega
        have ed : dd ≠ bb := fun e => by have := lb.out; omega
        refine hK.out _ _ ⟨set4_other ex j0, set4_other ey j1, set4_other ey j2, set4_other ed j3⟩ (fun _ => ?_)
        clear hK K
        try simp only [Act.put, List.setIfInBounds_toArray, List.set_cons_zero, List.set_cons_succ]
        refine wpAnyH_done (by kernel_rfl) ?_ _
        simp only [Exit.then]
        go_wp2_with fail
        go_meet
        refine ⟨bb, rfl, _, _, _, _, _, _, hX.out.kadd (Upd.below (S := [bb]) (((((Upd.refl _ _).setCell (by simp) _).setCell (by simp) _).setCell (by simp) _).setCell (by simp) _) hb6.out.size (by simpa using lb.out) |> hb6.out.trans) lb.out ?_⟩
        rw [heap_self, heap_self, heap_self, heap_self, kk.out]
        rfl
      · skip
        have hb0 := (Below.refl w2.heap.size w2).drew
        have hs0 : w2.drew.heap.size = w2.heap.size := rfl
        go_simp
        have hb5 := ((Below.refl w2.heap.size w2).alloc (Nat.le_refl _) (.cells #[.int .i64 0, .bool false, .string ⟨#[]⟩, .string ⟨#[]⟩] 87)).drew
        have kk : (w2.alloc (.cells #[.int .i64 0, .bool false, .string ⟨#[]⟩, .string ⟨#[]⟩] 87)).drew.heap[w2.heap.size]? = _ := heap_alloc_new w2 (.cells #[.int .i64 0, .bool false, .string ⟨#[]⟩, .string ⟨#[]⟩] 87)
        have lb : w2.heap.size ≤ w2.heap.size := Nat.le_refl _
        generalize (w2.alloc (.cells #[.int .i64 0, .bool false, .string ⟨#[]⟩, .string ⟨#[]⟩] 87)).drew = w3 at *
        obtain ⟨bb, hbb⟩ : ∃ bb, bb = w2.heap.size := ⟨_, rfl⟩
        rw [← hbb] at kk ⊢
        replace lb : w2.heap.size ≤ bb := by omega
        replace hbb := Lib.hid hbb
        have hS1 := And.intro (keep hb5 v1) (And.intro (keep hb5 k1) (And.intro (keep hb5 k3) (keep hb5 d0)))
        refine hK.out _ _ hS1 (fun _ => ?_)
        clear hHeld hK K
        have hHeld := hS1
        clear hS1
        try simp only [Act.put, List.setIfInBounds_toArray, List.set_cons_zero, List.set_cons_succ]
        refine readyL 11 (by kernel_rfl) (by simp only [List.getElem?_toArray, List.getElem?_cons_succ, List.getElem?_cons_zero]; rfl) ?_
        intro K hK
        go_simp
        go_at_call 34
        refine (hG.out _ hb5).mono ?_
        rintro z w6 ⟨rfl, hb3⟩
        have hb6 := hb5.trans (hb3.mono hb5.size)
        have hS1 := And.intro (keep hb6 v1) (And.intro (keep hb6 k1) (And.intro (keep hb6 k3) (keep hb6 d0)))
        replace kk := Below.heap' hb3 kk
        replace hb3 := Lib.hid hb3
        replace kk := Lib.hid kk
        go_wp2_with fail
        refine hK.out _ _ hS1 (fun _ => ?_)
        clear hHeld hK K
        have hHeld := hS1
        clear hS1
        try simp only [Act.put, List.setIfInBounds_toArray, List.set_cons_zero, List.set_cons_succ]
        replace kk := kk.out
        refine readyL 13 (by kernel_rfl) (by simp only [List.getElem?_toArray, List.getElem?_cons_succ, List.getElem?_cons_zero]; rfl) ?_
        intro K hK
        obtain ⟨i0, i1, i2, i3, i4, i5⟩ := cells4 kk
        obtain ⟨j0, j1, j2, j3⟩ := hHeld
        replace kk := Lib.hid kk
        replace hb0 := Lib.hid hb0
        replace hb5 := Lib.hid hb5
        replace hb6 := Lib.hid hb6
        replace lb := Lib.hid lb
        go_simp
        go_wp2_with fail
        have ex : xb ≠ bb := fun e => by have := lb.out; omega
        have ey : bx ≠ bb := fun e => by have := lb.out; omega
        have ed : dd ≠ bb := fun e => by have := lb.out; omega
        refine hK.out _ _ ⟨set4_other ex j0, set4_other ey j1, set4_other ey j2, set4_other ed j3⟩ (fun _ => ?_)
        clear hK K
        try simp only [Act.put, List.setIfInBounds_toArray, List.set_cons_zero, List.set_cons_succ]
        refine wpAnyH_done (by kernel_rfl) ?_ _
        simp only [Exit.then]
        go_wp2_with fail
        go_meet
        refine ⟨bb, rfl, _, _, _, _, _, _, hX.out.kadd (Upd.below (S := [bb]) (((((Upd.refl _ _).setCell (by simp) _).setCell (by simp) _).setCell (by simp) _).setCell (by simp) _) hb6.out.size (by simpa using lb.out) |> hb6.out.trans) lb.out ?_⟩
        rw [heap_self, heap_self, heap_self, heap_self, kk.out]
        rfl
    case rest =>
      obtain ⟨bb, rfl, hY2⟩ := hcut
      obtain ⟨w3, hw3⟩ : ∃ w3, w3 = wc := ⟨wc, rfl⟩
      subst hw3
      clear hG hX d0 nx ny nd k0 k1 k2 k3 hqb v0 v1 v2 hq hdq
      obtain ⟨T, dI, oa, oc, wa, wcp, hX⟩ := hY2
      have hv := hX.xv
      obtain ⟨k0, k1, k2, k3, hqb⟩ := hkx.out _ _ hv (fun _ hy => List.mem_append_left _ hy)
      have v0 := hv.c0
      have v1 := hv.c1
      have v2 := hv.c2
      have hq := hv.xq
      have hdq := hv.dq
      clear hv
      obtain ⟨a0, a1, a2, a3, a4, a5⟩ := cells4 (hX.xv.kk (bb, .cells #[.int .i64 0, .bool nf, .string nk, .string nv] 87) (by simp))
      have d3 : w3.cell? ⟨dd, 3, none⟩ = some (.bool g) := by rw [cell_of_heap hX.dk]; rfl
      have hS : Hid (QS w0 w3 xb t ai dd K2 c0 k) := Lib.hid ⟨g, C, L, H, ⟨_, _, _, _, _, _, hX.kdrop (fun y hy => List.mem_append_left _ hy)⟩, hp.out⟩
      clear hX
      go_wp2_with fail
      go_ret
      exact ⟨by simp, hfin.out _ _ hS.out (by omega)⟩
-- >>a3
-- <<a4
set_option maxRecDepth 100000 in
set_option maxHeartbeats 4000000 in
theorem one12_4 (h : QS w0 w xb t ai dd K c0 k) (hk : k < 300) (_hc : c0 ≤ 100000) (x1 x2 : Str) (aft : Bool) (_hkey : x1.size ≤ 60) :
    Calls Tryz.prog 11 #[.pointer (some ⟨xb, 0, none⟩), .agg #[.int .u8 4, .string x1, .string x2, .bool aft]] w (OEnd w0 xb t ai dd K c0 (k + 1)) := by
  go_enter Tryz.func11, Tryz.ntmps11
  go_upto_region 1 with fail
  have hY := h.alloc (.cells #[.int .u8 4, .string x1, .string x2, .bool aft] 47)
  generalize w.alloc (.cells #[.int .u8 4, .string x1, .string x2, .bool aft] 47) = W0 at *
  generalize w.heap.size = bx at *
  obtain ⟨K2, hK2⟩ : ∃ K2, K2 = K ++ [(bx, Obj.cells #[.int .u8 4, .string x1, .string x2, .bool aft] 47)] := ⟨_, rfl⟩
  rw [← hK2] at hY
  have hfin : Hid (∀ W k', QS w0 W xb t ai dd K2 c0 k' → k' ≤ k + 1 → QS w0 W xb t ai dd K c0 (k + 1)) := Lib.hid fun W k' hW hk' => (hW.kdrop (fun y hy => by rw [hK2]; simp [hy])).up hk'
  have hkx : Hid (∀ W K3, XV W xb t ai dd K3 → (∀ y, y ∈ K2 → y ∈ K3) → W.cell? ⟨bx, 0, none⟩ = some (.int .u8 4) ∧ W.cell? ⟨bx, 1, none⟩ = some (.string x1) ∧ W.cell? ⟨bx, 2, none⟩ = some (.string x2) ∧ W.cell? ⟨bx, 3, none⟩ = some (.bool aft) ∧ bx < W.heap.size) := Lib.hid fun W K3 hW hK3 => by
    have := hW.kk (bx, .cells #[.int .u8 4, .string x1, .string x2, .bool aft] 47) (hK3 _ (by rw [hK2]; simp))
    obtain ⟨a0, a1, a2, a3, a4, _⟩ := cells4 this
    exact ⟨a0, a1, a2, a3, a4⟩
  clear hK2 h
  obtain ⟨g, C, L, H, ⟨T, dI, oa, oc, wa, wcp, hX⟩, hp⟩ := hY
  have hv := hX.xv
  obtain ⟨k0, k1, k2, k3, hqb⟩ := hkx.out _ _ hv (fun _ hy => hy)
  have v0 := hv.c0
  have v1 := hv.c1
  have v2 := hv.c2
  have hq := hv.xq
  have hdq := hv.dq
  clear hv
  have hP := Lib.hid hX.drop
  clear hX hp
  go_wp2_with fail
  refine hP.out.mono ?_
  clear hP k0 k1 k2 k3 hqb v0 v1 v2 hq hdq
  rintro z w1 ⟨rfl, hY1⟩
  obtain ⟨T, dI, oa, oc, wa, wcp, hX⟩ := hY1
  have hv := hX.xv
  obtain ⟨k0, k1, k2, k3, hqb⟩ := hkx.out _ _ hv (fun _ hy => hy)
  have v0 := hv.c0
  have v1 := hv.c1
  have v2 := hv.c2
  have hq := hv.xq
  have hdq := hv.dq
  clear hv
  have hP := Lib.hid (hX.ddrop (by omega))
  clear hX
  go_wp2_with fail
  refine hP.out.mono ?_
  clear hP k0 k1 k2 k3 hqb v0 v1 v2 hq hdq
  rintro z w2 ⟨rfl, hY2⟩
  have hS : Hid (QS w0 w2 xb t ai dd K2 c0 k) := Lib.hid ⟨true, [], [], H, hY2, List.Perm.refl _⟩
  clear hY2
  go_wp2_with fail
  go_ret
  exact ⟨rfl, hfin.out _ _ hS.out (by omega)⟩
-- >>a4
-- <<a5
set_option maxRecDepth 100000 in
set_option maxHeartbeats 4000000 in
theorem one12_5 (h : QS w0 w xb t ai dd K c0 k) (hk : k < 300) (_hc : c0 ≤ 100000) (x1 x2 : Str) (aft : Bool) (_hkey : x1.size ≤ 60) :
    Calls Tryz.prog 11 #[.pointer (some ⟨xb, 0, none⟩), .agg #[.int .u8 5, .string x1, .string x2, .bool aft]] w (OEnd w0 xb t ai dd K c0 (k + 1)) := by
  go_enter Tryz.func11, Tryz.ntmps11
  go_upto_region 1 with fail
  have hY := h.alloc (.cells #[.int .u8 5, .string x1, .string x2, .bool aft] 47)
  generalize w.alloc (.cells #[.int .u8 5, .string x1, .string x2, .bool aft] 47) = W0 at *
  generalize w.heap.size = bx at *
  obtain ⟨K2, hK2⟩ : ∃ K2, K2 = K ++ [(bx, Obj.cells #[.int .u8 5, .string x1, .string x2, .bool aft] 47)] := ⟨_, rfl⟩
  rw [← hK2] at hY
  have hfin : Hid (∀ W k', QS w0 W xb t ai dd K2 c0 k' → k' ≤ k + 1 → QS w0 W xb t ai dd K c0 (k + 1)) := Lib.hid fun W k' hW hk' => (hW.kdrop (fun y hy => by rw [hK2]; simp [hy])).up hk'
  have hkx : Hid (∀ W K3, XV W xb t ai dd K3 → (∀ y, y ∈ K2 → y ∈ K3) → W.cell? ⟨bx, 0, none⟩ = some (.int .u8 5) ∧ W.cell? ⟨bx, 1, none⟩ = some (.string x1) ∧ W.cell? ⟨bx, 2, none⟩ = some (.string x2) ∧ W.cell? ⟨bx, 3, none⟩ = some (.bool aft) ∧ bx < W.heap.size) := Lib.hid fun W K3 hW hK3 => by
    have := hW.kk (bx, .cells #[.int .u8 5, .string x1, .string x2, .bool aft] 47) (hK3 _ (by rw [hK2]; simp))
    obtain ⟨a0, a1, a2, a3, a4, _⟩ := cells4 this
    exact ⟨a0, a1, a2, a3, a4⟩
  clear hK2 h
  obtain ⟨g, C, L, H, ⟨T, dI, oa, oc, wa, wcp, hX⟩, hp⟩ := hY
  have hv := hX.xv
  obtain ⟨k0, k1, k2, k3, hqb⟩ := hkx.out _ _ hv (fun _ hy => hy)
  have v0 := hv.c0
  have v1 := hv.c1
  have v2 := hv.c2
  have hq := hv.xq
  have hdq := hv.dq
  clear hv
  have hP := Lib.hid (hX.ialloc 1)
  have hHk := hX.hk
  replace hp := Lib.hid hp
  clear hX
  go_wp2_with fail
  refine hP.out.mono ?_
  clear hP k0 k1 k2 k3 hqb v0 v1 v2 hq hdq
  rintro z w1 (⟨h1, h2, rfl, hY1⟩ | ⟨rfl, hY1⟩)
  · have hY2 := hY1.kadd ((Below.refl w1.heap.size w1).alloc (Nat.le_refl _) (.cells #[.int .i64 h1, .int .u64 h2] 77)) (Nat.le_refl _) (heap_alloc_new w1 (.cells #[.int .i64 h1, .int .u64 h2] 77))
    clear hY1
    go_upto_region 24 with fail
    generalize w1.alloc (.cells #[.int .i64 h1, .int .u64 h2] 77) = w2 at *
    generalize w1.heap.size = hb at *
    obtain ⟨T, dI, oa, oc, wa, wcp, hX⟩ := hY2
    have hv := hX.xv
    obtain ⟨k0, k1, k2, k3, hqb⟩ := hkx.out _ _ hv (fun _ hy => List.mem_append_left _ hy)
    have v0 := hv.c0
    have v1 := hv.c1
    have v2 := hv.c2
    have hq := hv.xq
    have hdq := hv.dq
    clear hv
    have kb := hX.xv.kk (hb, .cells #[.int .i64 h1, .int .u64 h2] 77) (by simp)
    have b0 : w2.cell? ⟨hb, 0, none⟩ = some (.int .i64 h1) := by rw [cell_of_heap kb]; rfl
    have b1 : w2.cell? ⟨hb, 1, none⟩ = some (.int .u64 h2) := by rw [cell_of_heap kb]; rfl
    have bl := heap_lt kb
    have c3 : w2.cell? ⟨xb, 3, none⟩ = some (.slice oa H.length oc) := by rw [cell_of_heap hX.xk]; rfl
    obtain ⟨a6, c6, w6, hrun, hv6, hd6, hx6, hs6, hY6⟩ := (hX.below ((Below.refl w2.heap.size w2).drew.alloc (Nat.le_refl _) (.cells #[.int .i64 h1, .int .u64 h2] 77))).tell (by omega) (x := (h1, h2)) (sb := w2.drew.heap.size) (heap_alloc_new _ _)
    obtain ⟨n, hn⟩ : ∃ n, n = H.length := ⟨_, rfl⟩
    rw [← hn] at c3 hrun hY6 hd6 hHk
    have q0 := hv6.xf 3
    have q1 := hv6.xq
    have q2 := hv6.dq
    obtain ⟨q3, hq3⟩ := hx6
    have hw1 : IntKind.i64.wrap ((n : Int) + 1) = (n : Int) + 1 := IntWalk.i64_in _ (by omega)
    obtain ⟨w7, hw7⟩ : ∃ w7, w7 = w6.setCell ⟨xb, 3, none⟩ (.slice a6 (n + 1) c6) := ⟨_, rfl⟩
    rw [← hw7] at hY6
    obtain ⟨T7, dI7, oa7, oc7, wa7, wc7, hX7⟩ := hY6
    have g1 : w7.cell? ⟨xb, 1, none⟩ = some (.pointer (some ⟨dd, 0, none⟩)) := hX7.xv.c1
    have g2 : w7.cell? ⟨dd, 2, none⟩ = some (.int .i64 n) := by rw [cell_of_heap hX7.dk]; rfl
    have g3 := hX7.xv.df 2
    have g4 := hX7.xv.dq
    have hfn : Hid (QS w0 (w7.setCell ⟨dd, 2, none⟩ (.int .i64 ((n + 1 : Nat) : Int))) xb t ai dd K2 c0 (k + 1)) := Lib.hid ⟨g, C, L, H ++ [(h1, h2)], by
      have := (hX7.count (n + 1)).kdrop (K' := K2) (fun y hy => List.mem_append_left _ hy)
      rw [List.length_append, List.length_singleton, ← hn]
      exact this, hp.out⟩
    replace hw7 := Lib.hid hw7
    replace hrun := Lib.hid hrun
    replace hn := Lib.hid hn
    clear hX kb hv6 hs6 hX7
    go_cut [] (fun wz => wz = w7)
    case first =>
      go_wp2_with fail
      go_region_law (refine step_append_run _ rfl (.tmp 228) (.tmp 230) 42 rfl _ _ _ _ (by simp [Act.eval]) (by simp [Act.eval]) hrun.out ?_)
      all_goals
        go_wp2_with fail
        go_meet
        exact hw7.out.symm
    case rest =>
      have hcut := hcut
      rw [hcut]
      clear k0 k1 k2 k3 hqb v0 v1 v2 hq hdq b0 b1 bl c3
      go_wp2_with fail
      go_ret
      exact ⟨rfl, hfin.out _ _ hfn.out (Nat.le_refl _)⟩
  · have hS : Hid (QS w0 w1 xb t ai dd K2 c0 k) := Lib.hid ⟨g, C, L, H, hY1, hp.out⟩
    clear hY1
    go_wp2_with fail
    go_ret
    exact ⟨rfl, hfin.out _ _ (hS.out.below ((Below.refl _ _).alloc (Nat.le_refl _) _)) (by omega)⟩
-- >>a5
-- <<a6
set_option maxRecDepth 100000 in
set_option maxHeartbeats 4000000 in
theorem one12_6 (h : QS w0 w xb t ai dd K c0 k) (hk : k < 300) (_hc : c0 ≤ 100000) (x1 x2 : Str) (aft : Bool) (_hkey : x1.size ≤ 60) :
    Calls Tryz.prog 11 #[.pointer (some ⟨xb, 0, none⟩), .agg #[.int .u8 6, .string x1, .string x2, .bool aft]] w (OEnd w0 xb t ai dd K c0 (k + 1)) := by
  go_enter Tryz.func11, Tryz.ntmps11
  go_upto_region 1 with fail
  have hY := h.alloc (.cells #[.int .u8 6, .string x1, .string x2, .bool aft] 47)
  generalize w.alloc (.cells #[.int .u8 6, .string x1, .string x2, .bool aft] 47) = W0 at *
  generalize w.heap.size = bx at *
  obtain ⟨K2, hK2⟩ : ∃ K2, K2 = K ++ [(bx, Obj.cells #[.int .u8 6, .string x1, .string x2, .bool aft] 47)] := ⟨_, rfl⟩
  rw [← hK2] at hY
  have hfin : Hid (∀ W k', QS w0 W xb t ai dd K2 c0 k' → k' ≤ k + 1 → QS w0 W xb t ai dd K c0 (k + 1)) := Lib.hid fun W k' hW hk' => (hW.kdrop (fun y hy => by rw [hK2]; simp [hy])).up hk'
  have hkx : Hid (∀ W K3, XV W xb t ai dd K3 → (∀ y, y ∈ K2 → y ∈ K3) → W.cell? ⟨bx, 0, none⟩ = some (.int .u8 6) ∧ W.cell? ⟨bx, 1, none⟩ = some (.string x1) ∧ W.cell? ⟨bx, 2, none⟩ = some (.string x2) ∧ W.cell? ⟨bx, 3, none⟩ = some (.bool aft) ∧ bx < W.heap.size) := Lib.hid fun W K3 hW hK3 => by
    have := hW.kk (bx, .cells #[.int .u8 6, .string x1, .string x2, .bool aft] 47) (hK3 _ (by rw [hK2]; simp))
    obtain ⟨a0, a1, a2, a3, a4, _⟩ := cells4 this
    exact ⟨a0, a1, a2, a3, a4⟩
  clear hK2 h
  obtain ⟨g, C, L, H, ⟨T, dI, oa, oc, wa, wcp, hX⟩, hp⟩ := hY
  have hv := hX.xv
  obtain ⟨k0, k1, k2, k3, hqb⟩ := hkx.out _ _ hv (fun _ hy => hy)
  have v0 := hv.c0
  have v1 := hv.c1
  have v2 := hv.c2
  have hq := hv.xq
  have hdq := hv.dq
  clear hv
  have hHk := hX.hk
  have c3 : W0.cell? ⟨xb, 3, none⟩ = some (.slice oa H.length oc) := by rw [cell_of_heap hX.xk]; rfl
  replace hp := Lib.hid hp
  cases H with
  | nil =>
    have hS : Hid (QS w0 W0 xb t ai dd K2 c0 k) := Lib.hid ⟨g, C, L, [], ⟨_, _, _, _, _, _, hX⟩, hp.out⟩
    clear hX
    simp only [List.length_nil] at c3 hHk
    go_wp2_with fail
    go_ret
    exact ⟨rfl, hfin.out _ _ hS.out (by omega)⟩
  | cons x H =>
    obtain ⟨b, off, rfl, hle, hmx, b0, b1, bl⟩ := hX.first
    obtain ⟨h1, h2⟩ := x
    simp only at b0 b1
    have hP := Lib.hid (hX.below (Below.refl W0.heap.size W0).drew).irelease
    simp only at hP
    rw [List.length_cons] at c3 hHk
    obtain ⟨n, hn⟩ : ∃ n, n = H.length := ⟨_, rfl⟩
    rw [← hn] at c3 hHk hle
    have hi0 : (0 : Int) < ((n + 1 : Nat) : Int) := by omega
    replace hX := Lib.hid hX
    replace hn := Lib.hid hn
    unfold maxLen at hmx
    go_upto_region 28 with fail
    go_cut [] (fun wz => QY w0 wz xb t ai dd K2 c0 k g C g L ((h1, h2) :: H).length H ((h1, h2) :: H) ∧ wz.cell? ⟨xb, 3, none⟩ = some (.slice (some ⟨b, off, none⟩) (n + 1) oc))
    case first =>
      go_region_held3 (fun w' => w'.cell? ⟨xb, 2, none⟩ = some (.pointer (some ⟨ai, 0, none⟩)) ∧ w'.cell? ⟨xb, 3, none⟩ = some (.slice (some ⟨b, off, none⟩) (n + 1) oc) ∧ w'.cell? ⟨b, off, none⟩ = some (.int .i64 h1) ∧ w'.cell? ⟨b, off + 1, none⟩ = some (.int .u64 h2)) (first | exact ⟨v2, c3, b0, b1⟩ | exact ⟨j0, j1, j2, j3⟩ | go_keep) (first
        | (go_at_call 37; refine hP.out.mono ?_; rintro z w1 ⟨rfl, T1, dI1, hX1⟩; have j0 := hX1.xv.c2; have j1 : w1.cell? ⟨xb, 3, none⟩ = some (.slice (some ⟨b, off, none⟩) (n + 1) oc) := (by rw [cell_of_heap hX1.xk, hn.out]; rfl); obtain ⟨b', off', e1, _, _, j2, j3, _⟩ := hX1.first; injection e1 with e1; injection e1 with e1 e2; subst e1 e2; simp only at j2 j3; replace hX1 := Lib.hid hX1))
      all_goals
        go_wp2_with fail
        go_meet
        exact ⟨⟨_, _, _, _, _, _, hX1.out⟩, j1⟩
    case rest =>
      obtain ⟨hY1, i3⟩ := hcut
      obtain ⟨w1, hw1⟩ : ∃ w1, w1 = wc := ⟨wc, rfl⟩
      subst hw1
      rw [List.length_cons, ← hn.out] at hY1
      obtain ⟨T1, dI1, oa1, oc1, wa1, wc1, hX1⟩ := hY1
      have i4 : w1.cell? ⟨xb, 3, none⟩ = some (.slice oa1 (H.length + 1) oc1) := by rw [cell_of_heap hX1.xk]; rfl
      rw [i3] at i4
      injection i4 with i4
      injection i4 with i4 i5 i6
      subst i4 i6
      clear i5 hP hX b0 b1 bl c3 k0 k1 k2 k3 hqb v0 v1 v2 hq hdq
      have q0 := hX1.xv.xf 3
      have q1 := hX1.xv.xq
      have hY2 := hX1.pop
      clear hX1
      rw [← hn.out] at hY2
      by_cases ho : oc = 1
      · subst ho
        obtain rfl : n = 0 := by omega
        rw [if_pos rfl] at hY2
        obtain ⟨w7, hw7⟩ : ∃ w7, w7 = w1.setCell ⟨xb, 3, none⟩ (.slice (some ⟨b, off, none⟩) 0 (1 - 1)) := ⟨_, rfl⟩
        rw [← hw7] at hY2
        obtain ⟨T7, dI7, oa7, oc7, wa7, wc7, hX7⟩ := hY2
        have g1 : w7.cell? ⟨xb, 1, none⟩ = some (.pointer (some ⟨dd, 0, none⟩)) := hX7.xv.c1
        have g2 : w7.cell? ⟨dd, 2, none⟩ = some (.int .i64 ((0 + 1 : Nat) : Int)) := by rw [cell_of_heap hX7.dk]; rfl
        have g3 := hX7.xv.df 2
        have g4 := hX7.xv.dq
        have hw1 : IntKind.i64.wrap (((0 + 1 : Nat) : Int) - 1) = (0 : Int) := by rw [show ((0 + 1 : Nat) : Int) - 1 = (0 : Int) by omega]; exact IntWalk.i64_in _ (by omega)
        have hfn : Hid (QS w0 (w7.setCell ⟨dd, 2, none⟩ (.int .i64 (0 : Int))) xb t ai dd K2 c0 k) := Lib.hid ⟨g, C, L, H, by
          rw [← hn.out]
          exact hX7.count 0, hp.out⟩
        replace hw7 := Lib.hid hw7
        clear hX7
        go_upto_region 29 with fail
        go_cut [] (fun wz => wz = w7)
        case first =>
          go_wp2_with fail
          go_meet
          exact hw7.out.symm
        case rest =>
          rw [hcut]
          clear i3 q0 q1
          go_wp2_with fail
          go_ret
          exact ⟨rfl, hfin.out _ _ hfn.out (by omega)⟩
      · rw [if_neg ho] at hY2
        obtain ⟨w7, hw7⟩ : ∃ w7, w7 = w1.setCell ⟨xb, 3, none⟩ (.slice (some ⟨b, off + 2, none⟩) n (oc - 1)) := ⟨_, rfl⟩
        rw [← hw7] at hY2
        obtain ⟨T7, dI7, oa7, oc7, wa7, wc7, hX7⟩ := hY2
        have g1 : w7.cell? ⟨xb, 1, none⟩ = some (.pointer (some ⟨dd, 0, none⟩)) := hX7.xv.c1
        have g2 : w7.cell? ⟨dd, 2, none⟩ = some (.int .i64 ((n + 1 : Nat) : Int)) := by rw [cell_of_heap hX7.dk]; rfl
        have g3 := hX7.xv.df 2
        have g4 := hX7.xv.dq
        have hw1 : IntKind.i64.wrap (((n + 1 : Nat) : Int) - 1) = (n : Int) := by rw [show ((n + 1 : Nat) : Int) - 1 = (n : Int) by omega]; exact IntWalk.i64_in _ (by omega)
        have hfn : Hid (QS w0 (w7.setCell ⟨dd, 2, none⟩ (.int .i64 (n : Int))) xb t ai dd K2 c0 k) := Lib.hid ⟨g, C, L, H, by
          rw [← hn.out]
          exact hX7.count n, hp.out⟩
        replace hw7 := Lib.hid hw7
        clear hX7
        go_upto_region 29 with fail
        go_cut [] (fun wz => wz = w7)
        case first =>
          go_wp2_with fail
          go_meet
          exact hw7.out.symm
        case rest =>
          rw [hcut]
          clear i3 q0 q1
          go_wp2_with fail
          go_ret
          exact ⟨rfl, hfin.out _ _ hfn.out (by omega)⟩
-- >>a6
-- <<an
set_option maxRecDepth 100000 in
set_option maxHeartbeats 4000000 in
theorem one12_n (h : QS w0 w xb t ai dd K c0 k) (_hk : k < 300) (_hc : c0 ≤ 100000) (dn : Nat) (x1 x2 : Str) (aft : Bool) (_hkey : x1.size ≤ 60) (hd0 : dn ≠ 0) (hd1 : dn ≠ 1) (hd2 : dn ≠ 2) (hd3 : dn ≠ 3) (hd4 : dn ≠ 4) (hd5 : dn ≠ 5) (hd6 : dn ≠ 6) :
    Calls Tryz.prog 11 #[.pointer (some ⟨xb, 0, none⟩), .agg #[.int .u8 (dn : Nat), .string x1, .string x2, .bool aft]] w (OEnd w0 xb t ai dd K c0 (k + 1)) := by
  have e0 : ((dn : Int) == 0) = false := beq_eq_false_iff_ne.2 (by omega)
  replace hd0 := Lib.hid hd0
  have e1 : ((dn : Int) == 1) = false := beq_eq_false_iff_ne.2 (by omega)
  replace hd1 := Lib.hid hd1
  have e2 : ((dn : Int) == 2) = false := beq_eq_false_iff_ne.2 (by omega)
  replace hd2 := Lib.hid hd2
  have e3 : ((dn : Int) == 3) = false := beq_eq_false_iff_ne.2 (by omega)
  replace hd3 := Lib.hid hd3
  have e4 : ((dn : Int) == 4) = false := beq_eq_false_iff_ne.2 (by omega)
  replace hd4 := Lib.hid hd4
  have e5 : ((dn : Int) == 5) = false := beq_eq_false_iff_ne.2 (by omega)
  replace hd5 := Lib.hid hd5
  have e6 : ((dn : Int) == 6) = false := beq_eq_false_iff_ne.2 (by omega)
  replace hd6 := Lib.hid hd6
  go_enter Tryz.func11, Tryz.ntmps11
  go_upto_region 1 with fail
  have hY := h.alloc (.cells #[.int .u8 (dn : Nat), .string x1, .string x2, .bool aft] 47)
  generalize w.alloc (.cells #[.int .u8 (dn : Nat), .string x1, .string x2, .bool aft] 47) = W0 at *
  generalize w.heap.size = bx at *
  obtain ⟨K2, hK2⟩ : ∃ K2, K2 = K ++ [(bx, Obj.cells #[.int .u8 (dn : Nat), .string x1, .string x2, .bool aft] 47)] := ⟨_, rfl⟩
  rw [← hK2] at hY
  have hfin : Hid (∀ W k', QS w0 W xb t ai dd K2 c0 k' → k' ≤ k + 1 → QS w0 W xb t ai dd K c0 (k + 1)) := Lib.hid fun W k' hW hk' => (hW.kdrop (fun y hy => by rw [hK2]; simp [hy])).up hk'
  have hkx : Hid (∀ W K3, XV W xb t ai dd K3 → (∀ y, y ∈ K2 → y ∈ K3) → W.cell? ⟨bx, 0, none⟩ = some (.int .u8 (dn : Nat)) ∧ W.cell? ⟨bx, 1, none⟩ = some (.string x1) ∧ W.cell? ⟨bx, 2, none⟩ = some (.string x2) ∧ W.cell? ⟨bx, 3, none⟩ = some (.bool aft) ∧ bx < W.heap.size) := Lib.hid fun W K3 hW hK3 => by
    have := hW.kk (bx, .cells #[.int .u8 (dn : Nat), .string x1, .string x2, .bool aft] 47) (hK3 _ (by rw [hK2]; simp))
    obtain ⟨a0, a1, a2, a3, a4, _⟩ := cells4 this
    exact ⟨a0, a1, a2, a3, a4⟩
  clear hK2 h
  obtain ⟨g, C, L, H, ⟨T, dI, oa, oc, wa, wcp, hX⟩, hp⟩ := hY
  have hv := hX.xv
  obtain ⟨k0, k1, k2, k3, hqb⟩ := hkx.out _ _ hv (fun _ hy => hy)
  have v0 := hv.c0
  have v1 := hv.c1
  have v2 := hv.c2
  have hq := hv.xq
  have hdq := hv.dq
  clear hv
  have hS : Hid (QS w0 W0 xb t ai dd K2 c0 k) := Lib.hid ⟨g, C, L, H, ⟨_, _, _, _, _, _, hX⟩, hp⟩
  clear hX hp
  go_wp2_with fail
  go_ret
  exact ⟨rfl, hfin.out _ _ hS.out (by omega)⟩
-- >>an
end
end Go.Proofs.YtmhlokomlngdmaaGreat
