/- A trie's Drop; what a trie that is gone answers. -/
import Derived.Test.YtmhlokomlngdmaaGreatArtTz
import Derived.Test.YtmhlokomlngdmaaGreatHandlesOfAnode
namespace Go.Proofs.YtmhlokomlngdmaaGreat
open Go.RowKit
/-- A tree that was dropped. -/
def Gone (w : World) (t : Nat) : Prop := ∃ pp a r1 r2, w.heap[t]? = some (.cells #[.pointer pp, .pointer (some a), .int .i64 r1, .int .u64 r2, .int .i64 0, .bool true] 79)
theorem Gone.below {w w' : World} {t : Nat} (h : Gone w t) (hb : Below w.heap.size w w') : Gone w' t := by
  obtain ⟨pp, a, r1, r2, h⟩ := h
  exact ⟨pp, a, r1, r2, Below.heap' hb h⟩
theorem Gone.out {w : World} {t : Nat} (h : Gone w t) : Calls Tryz.prog 39 #[.pointer (some ⟨t, 0, none⟩)] w fun e w' => e = .returned (.bool true) ∧ w = w' := by
  obtain ⟨pp, a, r1, r2, h⟩ := h
  exact out_ok (a := a) (b := true) (by rw [cell_of_heap h]; rfl) (by rw [cell_of_heap h]; rfl)
section
variable {w0 w w' : World} {T : TS} {C : Cont}
def DropEnd (w0 w : World) (T : TS) (e : Ending) (w' : World) : Prop :=
  e = .returned (.tuple #[]) ∧ ∃ T' w1, AM w0 w1 T' ∧ TEv w w1 T T' ∧ T'.F = [] ∧ T'.free.count true = T.free.count true + T.F.length ∧ Upd [T.t] w1 w' ∧ Gone w' T.t
theorem adel_len {F : AF} (hn : (F.map (·.1)).Nodup) {x : Hd × AN} (hx : x ∈ F) : (adel F x.1).length + 1 = F.length := by
  induction F with
  | nil => cases hx
  | cons a L ih =>
    rw [List.map_cons, List.nodup_cons] at hn
    unfold adel
    rcases List.mem_cons.1 hx with rfl | hm
    · rw [List.filter_cons_of_neg (by simp), filter_all (fun y hy => by
        have : y.1 ≠ x.1 := fun hh => hn.1 (by rw [← hh]; exact List.mem_map_of_mem hy)
        simpa using this)]
      rfl
    · have hne : a.1 ≠ x.1 := fun hh => hn.1 (by rw [hh]; exact List.mem_map_of_mem hm)
      rw [List.filter_cons_of_pos (by simpa using hne)]
      simp only [List.length_cons]
      have := ih hn.2 hm
      unfold adel at this
      rw [this]
theorem hand_node (h : AM w0 w T) {g : Int × Int} (hg : g ∈ handsOf T.d.A.L) : ∃ x, x ∈ T.F ∧ x.1 = g := by
  have h1 : g ∈ T.d.A.L.map hof := (List.mergeSort_perm _ _).mem_iff.1 hg
  obtain ⟨e, he, rfl⟩ := List.mem_map.1 h1
  obtain ⟨x, hx, h2, h3⟩ := h.node he
  exact ⟨x, hx, Prod.ext h2.symm h3.symm⟩
theorem hands_nodup (h : AM w0 w T) : (handsOf T.d.A.L).Nodup := by
  refine ((List.mergeSort_perm _ _).nodup_iff).2 ?_
  refine nodup_of_map (f := fun x : Int × Int => x.1.toNat) ?_
  rw [List.map_map]
  have : (T.d.A.L.map ((fun x : Int × Int => x.1.toNat) ∘ hof)) = T.d.A.L.map AEnt.slot := List.map_congr_left fun e _ => by simp [hof]
  rw [this]
  exact h.slots
set_option maxRecDepth 100000 in
set_option maxHeartbeats 4000000 in
theorem AM.drop (h : AM w0 w T) : Calls Tryz.prog 25 #[.pointer (some ⟨T.t, 0, none⟩)] w (DropEnd w0 w T) := by
  have hln := h.freeLen
  have hfl := h.len
  have hHa := AAnode.aHandles_any T.d.A [] (some ⟨T.P.1, 0, none⟩) w (h.bw.ag h.hd h.ta h.tc) (h.bw.ars.ar T.i T.d h.hd).bn (by omega)
  obtain ⟨_, c1, _, _, _, c5, hq⟩ := h.cells
  have hO := out_ok c1 c5
  have hnd := hands_nodup h
  have hno := fun g (hg : g ∈ handsOf T.d.A.L) => hand_node h hg
  have hlh : (handsOf T.d.A.L).length = T.F.length := by
    have h1 := (List.mergeSort_perm (T.d.A.L.map hof) (fun x y => decide (x.1 ≤ y.1))).length_eq
    rw [List.length_map] at h1
    exact h1.trans hfl
  obtain ⟨H, hH⟩ : ∃ H, H = handsOf T.d.A.L := ⟨_, rfl⟩
  unfold AAnode.HandlesEnd at hHa
  rw [← hH] at hHa hnd hno hlh
  replace hH := Lib.hid hH
  replace hnd := Lib.hid hnd
  replace hno := Lib.hid hno
  replace hfl := Lib.hid hfl
  have htq : Hid (T.t < w.heap.size) := Lib.hid hq
  replace h := Lib.hid h
  go_enter Tryz.func25, Tryz.ntmps25
  go_wp2_with fail
  refine hO.mono ?_
  clear hO
  rintro e w1 ⟨rfl, rfl⟩
  go_wp2_with fail
  refine hHa.mono ?_
  clear hHa
  rintro e w1 ⟨pa, pc, rfl, hrow, hb1⟩
  obtain ⟨n, hn⟩ : ∃ n, n = H.length := ⟨_, rfl⟩
  rw [← hn] at hlh ⊢
  have hz : ∀ q, (w.heap.size ≤ q ∧ q < w1.heap.size) → q < w1.heap.size ∧ T.ρ q = 0 := fun q hq => ⟨hq.2, h.out.bw.ro.far q hq.1⟩
  have hcel : Hid (∀ W T', TEv w1 W T T' → ∀ k x, H[k]? = some x → ∃ pb, pa = some ⟨pb, 0, none⟩ ∧ pb < W.heap.size ∧ n ≤ pc ∧ pc ≤ maxLen ∧ W.cell? ⟨pb, k * 2, none⟩ = some (.int .i64 x.1) ∧ W.cell? ⟨pb, k * 2 + 1, none⟩ = some (.int .u64 x.2)) := Lib.hid fun W T' hev k x hx => by
    obtain ⟨b, cap, ev, _, h2, h3, h4, h5, _, h6⟩ := hrow.at hx
    injection ev with ev _ ec
    subst ec
    obtain ⟨k1, k2⟩ := hev.keepZ (Z := fun q => w.heap.size ≤ q ∧ q < w1.heap.size) hz
    exact ⟨b, ev, (k2 b ⟨h2, h3⟩).1, by rw [hn]; exact h4, h5, KeepZ.cell k1 ⟨h2, h3⟩ (by simpa using h6 0 _ rfl), KeepZ.cell k1 ⟨h2, h3⟩ (h6 1 _ rfl)⟩
  replace hn := Lib.hid hn
  have hA1 := h.out.below hb1
  replace hA1 := Lib.hid hA1
  replace hb1 := Lib.hid hb1
  have hn4 : n ≤ 4096 := by omega
  replace hlh := Lib.hid hlh
  clear hrow hz c1 c5 hq
  go_wp2_with fail
  go_loopg [12] n (fun gk v wr => ∃ (k : Nat) (T' : TS), gk = n - k ∧ k ≤ n ∧ v = .int .i64 k ∧ AM w0 wr T' ∧ TEv w1 wr T T' ∧ T'.F.length + k = n ∧ T'.free.count true = T.free.count true + k ∧ ∀ j g, k ≤ j → H[j]? = some g → ∃ x, x ∈ T'.F ∧ x.1 = g)
  case atStart => exact ⟨0, T, rfl, Nat.zero_le _, rfl, hA1.out, TEv.refl hA1.out, by have := hlh.out; omega, rfl, fun j g _ hg => hno.out g (List.mem_of_getElem? hg)⟩
  case round =>
    obtain ⟨k, T', rfl, hk, rfl, hA, hE, hL, hF, hR⟩ := hrel
    by_cases hlt : k < n
    · obtain ⟨⟨g1, g2⟩, hg⟩ : ∃ g, H[k]? = some g := ⟨_, List.getElem?_eq_getElem (by have := hn.out; omega)⟩
      obtain ⟨x, hx, hxg⟩ := hR k _ (Nat.le_refl _) hg
      obtain ⟨pb, rfl, hp1, hp2, hp3, k0, k1⟩ := hcel.out wr T' hE k _ hg
      simp only at k0 k1
      have hal : Below wr.heap.size wr (wr.alloc (.cells #[.int .i64 g1, .int .u64 g2] 77)) := (Below.refl _ _).alloc (Nat.le_refl _) _
      have hbx := heap_alloc_new wr (.cells #[.int .i64 g1, .int .u64 g2] 77)
      have hA2 : (k : Int) < (n : Int) := by omega
      have hA3 : (0 : Int) ≤ (k : Int) := by omega
      have hw1 : IntKind.i64.wrap ((k : Int) + 1) = (k : Int) + 1 := IntWalk.i64_in _ (by omega)
      have hr0 : T'.ρ wr.heap.size = 0 := hA.bw.ro.far _ (Nat.le_refl _)
      replace hA := Lib.hid hA
      replace hE := Lib.hid hE
      replace hL := Lib.hid hL
      replace hF := Lib.hid hF
      replace hR := Lib.hid hR
      replace hg := Lib.hid hg
      replace hx := Lib.hid hx
      replace hxg := Lib.hid hxg
      unfold maxLen at hp3
      clear hA1
      go_upto_region 4 with fail
      generalize wr.alloc (.cells #[.int .i64 g1, .int .u64 g2] 77) = wb at *
      obtain ⟨QB, hQB⟩ : ∃ QB, QB = wr.heap.size := ⟨_, rfl⟩
      rw [← hQB] at hbx hr0 ⊢
      obtain ⟨b0, b1, bq, bf⟩ := cells2 hbx
      have hAb := hA.out.below hal
      have hEb := hE.out.trans (TEv.below hA.out hal)
      have hRel := (hAb.below (bel_dw (w := wb))).release hx.out
      rw [hxg.out, hE.out.a] at hRel
      obtain ⟨_, c1, _, _, _, _, cq⟩ := hAb.cells
      rw [hE.out.t, hE.out.a] at c1
      rw [hE.out.t] at cq
      replace hRel := Lib.hid hRel
      replace hAb := Lib.hid hAb
      replace hEb := Lib.hid hEb
      replace hbx := Lib.hid hbx
      replace hQB := Lib.hid hQB
      replace hal := Lib.hid hal
      clear k0 k1
      go_region_held3 (fun W' => W'.cell? ⟨T.t, 1, none⟩ = some (.pointer (some ⟨T.d.A.a, 0, none⟩)) ∧ W'.cell? ⟨QB, 0, none⟩ = some (.int .i64 g1) ∧ W'.cell? ⟨QB, 1, none⟩ = some (.int .u64 g2)) (first | exact ⟨c1, b0, b1⟩ | exact ⟨i0, i1, i2⟩ | go_keep) (first
        | (go_at_call 55; refine hRel.out.mono ?_; rintro y w10 ⟨rfl, T4, r1, r2, r3, r4, r5, r6⟩; have hev5 := hEb.out.trans ((TEv.below hAb.out bel_dw).trans r2); have i0 := hev5.cell1 r1; have y1 := r2.keep (Below.heap' bel_dw hbx.out) hr0; obtain ⟨i1, i2, _, _⟩ := cells2 y1.1; replace r1 := Lib.hid r1; replace r2 := Lib.hid r2; replace r3 := Lib.hid r3; replace r4 := Lib.hid r4; replace r5 := Lib.hid r5; replace r6 := Lib.hid r6; replace hev5 := Lib.hid hev5; replace y1 := Lib.hid y1))
      all_goals
        go_wp2_with fail
        go_roundg (n - (k + 1))
        case rel =>
          refine ⟨k + 1, T4, rfl, by omega, by go_num, r1.out, hev5.out, ?_, ?_, fun j g hj hgj => ?_⟩
          · have h1 := adel_len hA.out.ndf hx.out
            have h2 := r3.out
            rw [← hxg.out] at h2
            rw [h2]
            have := hL.out
            omega
          · rw [r6.out, hF.out]; omega
          · obtain ⟨y, hy, hyg⟩ := hR.out j g (by omega) hgj
            refine ⟨y, ?_, hyg⟩
            rw [r3.out]
            refine mem_adel.2 ⟨fun he => ?_, hy⟩
            have h3 : H[j]? = H[k]? := by rw [hgj, hg.out, ← hyg, he]
            have h4 := (List.getElem?_inj (List.getElem?_eq_some_iff.1 hgj).1 hnd.out).1 h3
            omega
        case measure => omega
    · obtain rfl : k = n := by omega
      have hF0 : T'.F = [] := List.length_eq_zero_iff.1 (by omega)
      have ht : T'.t = T.t := hE.t
      have hblk := hA.blk
      rw [ht] at hblk
      have x4 : wr.cell? ⟨T.t, 4, none⟩ = some (.int .i64 T'.n) := by rw [cell_of_heap hblk]; rfl
      have x5 : wr.cell? ⟨T.t, 5, none⟩ = some (.bool false) := by rw [cell_of_heap hblk]; rfl
      have xq := heap_lt hblk
      have xf := fun i => frozen_of_heap hblk i
      have hs1 := heap_set_same hblk 4 (.int .i64 0)
      have hs2 := heap_set_same hs1 5 (.bool true)
      have hfin : Hid (DropEnd w0 w T (.returned (.tuple #[])) ((wr.setCell ⟨T.t, 4, none⟩ (.int .i64 0)).setCell ⟨T.t, 5, none⟩ (.bool true))) := Lib.hid ⟨rfl, T', wr, hA, (TEv.below h.out hb1.out).trans hE, hF0, by have := hlh.out; omega, ((Upd.refl [T.t] wr).setCell (p := ⟨T.t, 4, none⟩) (by simp) _).setCell (p := ⟨T.t, 5, none⟩) (by simp) _, ⟨_, _, _, _, hs2⟩⟩
      replace hblk := Lib.hid hblk
      replace hA := Lib.hid hA
      replace hE := Lib.hid hE
      replace hF0 := Lib.hid hF0
      replace hs1 := Lib.hid hs1
      replace hs2 := Lib.hid hs2
      replace ht := Lib.hid ht
      replace hR := Lib.hid hR
      replace hL := Lib.hid hL
      replace hF := Lib.hid hF
      clear hA1
      go_wp2_with fail
      exact ⟨rfl, .tuple #[], by simp [results, Tryz.results25, go_sem], hfin.out⟩
end
section
variable {w : World} {t : Nat}
theorem Gone.drop (h : Gone w t) : Calls Tryz.prog 25 #[.pointer (some ⟨t, 0, none⟩)] w fun e w' => e = .returned (.tuple #[]) ∧ w = w' := by
  have hO := h.out
  clear h
  go_enter Tryz.func25, Tryz.ntmps25
  go_wp2_with fail
  refine hO.mono ?_
  rintro e w1 ⟨rfl, rfl⟩
  go_wp2_with fail
  exact ⟨rfl, .tuple #[], by simp [results, Tryz.results25, go_sem], rfl, rfl⟩
theorem Gone.length (h : Gone w t) : Calls Tryz.prog 20 #[.pointer (some ⟨t, 0, none⟩)] w fun e w' => e = .returned (.int .i64 0) ∧ w = w' := by
  have hO := h.out
  clear h
  go_enter Tryz.func20, Tryz.ntmps20
  go_wp2_with fail
  refine hO.mono ?_
  rintro e w1 ⟨rfl, rfl⟩
  go_wp2_with fail
  go_ret
  exact ⟨rfl, rfl⟩
theorem Gone.slots (h : Gone w t) : Calls Tryz.prog 19 #[.pointer (some ⟨t, 0, none⟩)] w fun e w' => e = .returned (.int .i64 0) ∧ w = w' := by
  have hO := h.out
  clear h
  go_enter Tryz.func19, Tryz.ntmps19
  go_wp2_with fail
  refine hO.mono ?_
  rintro e w1 ⟨rfl, rfl⟩
  go_wp2_with fail
  go_ret
  exact ⟨rfl, rfl⟩
theorem Gone.get (h : Gone w t) (key : Str) (v : Value) : Calls Tryz.prog 26 #[.pointer (some ⟨t, 0, none⟩), .string key, v] w fun e w' => e = .returned (.tuple #[.string ⟨#[]⟩, .bool false, .bool true]) ∧ w = w' := by
  have hO := h.out
  clear h
  go_enter Tryz.func26, Tryz.ntmps26
  go_wp2_with fail
  refine hO.mono ?_
  rintro e w1 ⟨rfl, rfl⟩
  go_wp2_with (refine bodyPost_ret (res_get _ (.string ⟨#[]⟩) (.bool false) (.bool true) ?_ ?_ ?_) rfl (Hid.out ?_); iterate 3 simp only [List.getElem?_toArray, List.getElem?_cons_succ, List.getElem?_cons_zero])
  exact Lib.hid trivial
theorem Gone.next (h : Gone w t) (key : Str) (after : Bool) (v : Value) : Calls Tryz.prog 27 #[.pointer (some ⟨t, 0, none⟩), .string key, .bool after, v] w fun e w' => e = .returned (.tuple #[.string ⟨#[]⟩, .string ⟨#[]⟩, .bool false, .bool true]) ∧ w = w' := by
  have hO := h.out
  clear h
  go_enter Tryz.func27, Tryz.ntmps27
  go_wp2_with fail
  refine hO.mono ?_
  rintro e w1 ⟨rfl, rfl⟩
  go_wp2_with fail
  refine bodyPost_ret (v := .tuple #[.string ⟨#[]⟩, .string ⟨#[]⟩, .bool false, .bool true]) (by simp [results, Tryz.results27, go_sem]) rfl ⟨rfl, rfl⟩
set_option maxRecDepth 100000 in
theorem Gone.delete (h : Gone w t) (key : Str) : Calls Tryz.prog 24 #[.pointer (some ⟨t, 0, none⟩), .string key] w fun e w' => e = .returned (.tuple #[.string ⟨#[]⟩, .bool false]) ∧ w = w' := by
  have hO := h.out
  clear h
  go_enter Tryz.func24, Tryz.ntmps24
  go_wp2_with fail
  refine hO.mono ?_
  rintro e w1 ⟨rfl, rfl⟩
  go_wp2_with fail
  go_ret2
  exact ⟨rfl, rfl⟩
theorem Gone.put (h : Gone w t) (key v : Str) : Calls Tryz.prog 18 #[.pointer (some ⟨t, 0, none⟩), .string key, .string v] w fun e w' => e = .returned (.tuple #[.string ⟨#[]⟩, .bool false, .int .i64 8]) ∧ w = w' := by
  have hO := h.out
  clear h
  go_enter Tryz.func18, Tryz.ntmps18
  go_wp2_with fail
  refine hO.mono ?_
  rintro e w1 ⟨rfl, rfl⟩
  go_wp2_with fail
  go_ret3
  exact ⟨rfl, rfl⟩
theorem Gone.check (h : Gone w t) : Calls Tryz.prog 22 #[.pointer (some ⟨t, 0, none⟩)] w fun e w' => e = .returned (.bool true) ∧ Below w.heap.size w w' := by
  have hb : Below w.heap.size w (w.alloc (.cells #[.pointer (some ⟨t, 0, none⟩)] 30)) := (Below.refl _ _).alloc (Nat.le_refl _) _
  have hO := (h.below hb).out
  clear h
  replace hb := Lib.hid hb
  go_enter Tryz.func22, Tryz.ntmps22
  go_wp2_with fail
  refine hO.mono ?_
  rintro e w1 ⟨rfl, rfl⟩
  go_wp2_with fail
  go_ret
  exact ⟨rfl, hb.out⟩
theorem Gone.all (h : Gone w t) : Calls Tryz.prog 14 #[.pointer (some ⟨t, 0, none⟩)] w (AllEnd w []) := by
  have hb := below_two w (.cells #[.pointer (some ⟨t, 0, none⟩)] 30) (.cells #[.slice none 0 0] 35)
  have hO := (h.below hb).out
  clear h
  replace hb := Lib.hid hb
  go_enter Tryz.func14, Tryz.ntmps14
  go_wp2_with fail
  refine hO.mono ?_
  rintro e w1 ⟨rfl, rfl⟩
  go_wp2_with fail
  go_ret
  exact ⟨none, 0, rfl, Row.nil pcel_len pcel_one _ _ _, hb.out⟩
end
/-- A trie that was alone in its pool, and is gone. -/
def ATg (w0 w : World) (p t c0 : Nat) : Prop := Below w0.heap.size w0 w ∧ Gone w t ∧ ∃ g f gens free, PoolIs w p g f gens free ∧ free.count true = free.length ∧ free.length = c0
section
variable {w0 w w' : World} {p t c0 : Nat} {C : Cont}
theorem ATg.bel (h : ATg w0 w p t c0) : Below w0.heap.size w0 w := h.1
theorem ATg.gone (h : ATg w0 w p t c0) : Gone w t := h.2.1
theorem PoolIs.upd0 {S : List Nat} {g f : Nat} {gens : List Int} {free : List Bool} (h : PoolIs w p g f gens free) (hu : Upd S w w') (h1 : p ∉ S) (h2 : g ∉ S) (h3 : f ∉ S) : PoolIs w' p g f gens free := by
  obtain ⟨q1, q2, q3, q4, q5, q6, q7, q8⟩ := h
  exact ⟨q1, q2, q3, q4, q5, hu.heap q6 h1, hu.heap q7 h2, hu.heap q8 h3⟩
theorem ATg.below (h : ATg w0 w p t c0) (hb : Below w.heap.size w w') : ATg w0 w' p t c0 := by
  obtain ⟨h1, h2, g, f, gens, free, h3, h4⟩ := h
  exact ⟨h1.trans (hb.mono h1.size), h2.below hb, g, f, gens, free, h3.upd0 (Upd.of_below (S := []) hb) (by simp) (by simp) (by simp), h4⟩
theorem ATg.live (h : ATg w0 w p t c0) : Calls Tryz.prog 21 #[.pointer (some ⟨p, 0, none⟩)] w fun e w' => e = .returned (.int .i64 0) ∧ Below w.heap.size w w' := by
  obtain ⟨_, _, g, f, gens, free, h3, h4, _⟩ := h
  refine (pLive_any p g f gens free w h3).mono ?_
  rintro e w' ⟨rfl, hb⟩
  refine ⟨?_, hb⟩
  rw [h4]
  simp
theorem ATx.drop (h : ATx w0 w p t c0 C) : Calls Tryz.prog 25 #[.pointer (some ⟨t, 0, none⟩)] w fun e w' => e = .returned (.tuple #[]) ∧ ATg w0 w' p t c0 := by
  obtain ⟨T, h, rfl, rfl, h1, h2, h3⟩ := h
  have ha := h.alone h1 h2
  refine h.am.drop.mono ?_
  rintro e w' ⟨rfl, T', wx, hA, hev, hF, hfr, hu, hG⟩
  obtain ⟨hp, r1, r2, r3⟩ := hA.bw.ars.pool
  have hr : T'.ρ T.t = 4 := by rw [← hev.t]; exact hA.rol
  have ht0 : w0.heap.size ≤ T.t := by
    have h5 := h.am.rol
    refine Classical.byContradiction fun hh => ?_
    have := h.am.bw.ro.old T.t (by omega)
    omega
  change PoolIs wx T'.P.1 T'.P.2.1 T'.P.2.2 T'.gens T'.free at hp
  change T'.ρ T'.P.1 = 1 at r1
  change T'.ρ T'.P.2.1 = 2 at r2
  change T'.ρ T'.P.2.2 = 3 at r3
  rw [hev.P] at hp r1 r2 r3
  refine ⟨rfl, hA.bw.ro.bel.trans (hu.below hA.bw.ro.bel.size fun q hq => by rw [List.mem_singleton.1 hq]; exact ht0), hG, T.P.2.1, T.P.2.2, T'.gens, T'.free, hp.upd0 hu ?_ ?_ ?_, ?_, hev.fl.trans h3⟩
  · simp; intro e; rw [e] at r1; omega
  · simp; intro e; rw [e] at r2; omega
  · simp; intro e; rw [e] at r3; omega
  · have := hev.fl
    omega
end
end Go.Proofs.YtmhlokomlngdmaaGreat
