/- The contract of a B-link tree's Drop; what a tree that is gone answers. The arena's Handles is a premise (its contract is in HandlesOfNode). Two B-link trees in one pool: what is done to the second one leaves the first one. -/
import Derived.Test.YtlhobbfncjjeaaaBkTree
import Derived.Test.YtlhobbfncjjeaaaBkAll
namespace Go.Proofs.Ytlhobbfncjjeaaa
open Go.RowKit
def hofN (x : AEnt) : Hd := ((x.slot : Int), x.gen)
/-- What the arena's Handles hands back. -/
def HandsN (L : List AEnt) (w : World) (z : Ending) (w' : World) : Prop :=
  ∃ a c H, z = .returned (.slice a H.length c) ∧ Row w.heap.size 70 2 hcel w' (.slice a H.length c) H ∧ H.Perm (L.map hofN) ∧ Below w.heap.size w w'
def HandsOK : Prop := ∀ (A : AR) (p : Option Addr) (W : World), ANode.AG W [] p A → Born AEnt.born A.L A.c → A.L.length ≤ 100000 → Calls Try.prog 59 #[.pointer (some ⟨A.a, 0, none⟩)] W (HandsN A.L W)
/-- A tree that was dropped. -/
structure Gone (w : World) (ρ : Nat → Nat) (P : Nat × Nat × Nat) (D : List ArD) (rt i t : Nat) (d : ArD) : Prop where
  hd : D[i]? = some d
  ta : d.ta = 125
  tc : d.tc = 130
  rt4 : 4 ≤ rt ∧ rt ≤ 5
  rol : ρ t = rt
  blk : ∃ r1 r2, w.heap[t]? = some (.cells #[.pointer (some ⟨P.1, 0, none⟩), .pointer (some ⟨d.A.a, 0, none⟩), .int .i64 r1, .int .u64 r2, .int .i64 0, .bool true] 72)
  emp : d.A.L = []
theorem count_set_true (free : List Bool) (i : Nat) (ht : free[i]? = some false) : (free.set i true).count true = free.count true + 1 := by
  induction free generalizing i with
  | nil => simp at ht
  | cons b free ih =>
    cases i with
    | zero => simp at ht; subst ht; simp
    | succ i =>
      have := ih i (by simpa using ht)
      simp only [List.set_cons_succ, List.count_cons, this]
      omega
theorem filter_len {L : List AEnt} (hn : (L.map AEnt.slot).Nodup) {x : AEnt} (hx : x ∈ L) : (L.filter fun e => e.slot ≠ x.slot).length + 1 = L.length := by
  induction L with
  | nil => cases hx
  | cons a L ih =>
    rw [List.map_cons, List.nodup_cons] at hn
    by_cases e : a.slot = x.slot
    · have h1 : L.filter (fun e => e.slot ≠ x.slot) = L := filter_all fun y hy => by
        have : y.slot ≠ x.slot := fun h => hn.1 (by rw [e, ← h]; exact List.mem_map_of_mem hy)
        simpa using this
      rw [List.filter_cons, if_neg (by simp [e]), h1]
      rfl
    · rw [List.filter_cons, if_pos (by simpa using e)]
      rcases List.mem_cons.1 hx with rfl | hx
      · exact absurd rfl e
      · have := ih hn.2 hx
        simp only [List.length_cons]
        omega
section
variable {w0 w : World} {ρ : Nat → Nat} {P : Nat × Nat × Nat} {gens : List Int} {free : List Bool} {D : List ArD} {rt i t : Nat} {d : ArD} {Ls : List Lev} {r : Hd} {size : Nat}
/-- On Drop's way: the things H are still to be released. -/
structure DropI (w0 w wr : World) (ρ : Nat → Nat) (P : Nat × Nat × Nat) (gens : List Int) (free : List Bool) (D : List ArD) (i : Nat) (d : ArD) (H : List Hd) (gens' : List Int) (free' : List Bool) (D' : List ArD) (d' : ArD) : Prop where
  bw : BW w0 wr ρ P gens' free' D'
  hd : D'[i]? = some d'
  ta : d'.ta = d.ta
  tc : d'.tc = d.tc
  aa : d'.A.a = d.A.a
  hs : H.Perm (d'.A.L.map hofN)
  gl : gens'.length = gens.length
  cn : free'.count true + d'.A.L.length = free.count true + d.A.L.length
  oth : D'.length = D.length ∧ ∀ j, j ≠ i → D'[j]? = D[j]?
  sub : ∀ e, e ∈ d'.A.L → e ∈ d.A.L
  ru : RU [1, 2, 3, 12 + 3 * i] w wr ρ ρ
theorem BW.drop1 {wr : World} {H : List Hd} {h : Hd} {gens' : List Int} {free' : List Bool} {D' : List ArD} {d' : ArD} (hI : DropI w0 w wr ρ P gens free D i d (h :: H) gens' free' D' d') (hta : d.ta = 125) (htc : d.tc = 130)
    (hsep : ∀ j dj e x, j ≠ i → D[j]? = some dj → e ∈ dj.A.L → x ∈ d.A.L → e.slot ≠ x.slot) {W : World} (hW : Below wr.heap.size wr W) :
    Calls Try.prog 60 #[.pointer (some ⟨d.A.a, 0, none⟩), .agg #[.int .i64 h.1, .int .u64 h.2]] W fun e w' => e = .returned (.bool true) ∧ ∃ gens2 free2 D2 d2, DropI w0 w w' ρ P gens free D i d H gens2 free2 D2 d2 ∧ RU [1, 2, 3, 12 + 3 * i] W w' ρ ρ := by
  have hB := hI.bw.below hW
  have hmem : h ∈ d'.A.L.map hofN := hI.hs.mem_iff.1 (by simp)
  obtain ⟨x, hx, hxh⟩ := List.mem_map.1 hmem
  obtain ⟨pa, g, f⟩ := P
  have hG := hB.ars.gR hI.hd
  rw [hI.ta, hI.tc, hta, htc] at hG
  have hAi := hB.ars.ar i d' hI.hd
  have hfr := (hAi.th x hx).2
  obtain ⟨n1, n2, n3, n4, n5, n6⟩ := hB.ars.neq hI.hd
  have hns : (d'.A.L.map AEnt.slot).Nodup := hG.2.2.2.1
  rw [← hI.aa]
  refine (ANode.gRelease_some d'.A pa g f _ gens' free' h.1 h.2 x W hG hB.ars.pool.1 hx (by rw [← hxh]; rfl) (by rw [← hxh]; rfl) hfr n1 n2 n3 n4 n5 n6 (by simp)).mono ?_
  rintro e w' ⟨he, hu, hp, hA⟩
  obtain ⟨q1, q2⟩ := hB.ars.release hB.ro hI.hd hx (fun j dj e hj hd he => by
    rw [hI.oth.2 j hj] at hd
    exact hsep j dj e x hj hd he (hI.sub x hx)) hu hp (by rw [hI.ta, hI.tc, hta, htc]; exact hA)
  refine ⟨he, _, _, _, _, ⟨⟨hB.ro.step q2 (by simp; omega), q1⟩, get_set_self hI.hd, hI.ta, hI.tc, hI.aa, ?_, by simp [hI.gl], ?_, ?_, fun e he => hI.sub e (List.mem_filter.1 he).1, ?_⟩, q2⟩
  · have h1 : (h :: H).Perm (h :: (d'.A.L.filter fun e => e.slot ≠ x.slot).map hofN) := by
      refine hI.hs.trans ?_
      rw [← hxh]
      have : ∀ {L : List AEnt}, (L.map AEnt.slot).Nodup → x ∈ L → (L.map hofN).Perm (hofN x :: (L.filter fun e => e.slot ≠ x.slot).map hofN) := by
        intro L
        induction L with
        | nil => intro _ h; cases h
        | cons a L ih =>
          intro hn hx
          rw [List.map_cons, List.nodup_cons] at hn
          by_cases e : a.slot = x.slot
          · have hL : L.filter (fun e => e.slot ≠ x.slot) = L := filter_all fun y hy => by
              have : y.slot ≠ x.slot := fun h => hn.1 (by rw [e, ← h]; exact List.mem_map_of_mem hy)
              simpa using this
            have hax : x = a := by
              rcases List.mem_cons.1 hx with h | h
              · exact h
              · exact absurd (by rw [e]; exact List.mem_map_of_mem h) hn.1
            rw [List.filter_cons, if_neg (by simp [e]), hL, hax]
            exact List.Perm.refl _
          · rw [List.filter_cons, if_pos (by simpa using e), List.map_cons, List.map_cons]
            rcases List.mem_cons.1 hx with h | h
            · exact absurd (by rw [h]) e
            · exact (List.Perm.cons _ (ih hn.2 h)).trans (List.Perm.swap _ _ _)
      exact this hns hx
    exact h1.cons_inv
  · have h1 := filter_len hns hx
    have h2 := count_set_true free' x.slot hfr
    have h3 := hI.cn
    simp only
    rw [h2]
    omega
  · exact ⟨by simp [hI.oth.1], fun j hj => by rw [List.getElem?_set, if_neg (fun e => hj e.symm)]; exact hI.oth.2 j hj⟩
  · exact (hI.ru.trans ((RU.below (rs := []) hI.bw.ro hW).mono (by simp))).trans q2
def DropEnd (w0 w : World) (ρ : Nat → Nat) (P : Nat × Nat × Nat) (gens : List Int) (free : List Bool) (D : List ArD) (rt i t n : Nat) (e : Ending) (w' : World) : Prop :=
  e = .returned (.tuple #[]) ∧ ∃ gens' free' D' d', BW w0 w' ρ P gens' free' D' ∧ Gone w' ρ P D' rt i t d' ∧ gens'.length = gens.length ∧ free'.count true = free.count true + n ∧ (D'.length = D.length ∧ ∀ j, j ≠ i → D'[j]? = D[j]?) ∧ RU [1, 2, 3, 12 + 3 * i, rt] w w' ρ ρ
set_option maxRecDepth 100000 in
set_option maxHeartbeats 1000000 in
theorem Tr.drop (hH : HandsOK) (hB : BW w0 w ρ P gens free D) (h : Tr w ρ P D rt i t d Ls r size) (hsep : ∀ j dj e x, j ≠ i → D[j]? = some dj → e ∈ dj.A.L → x ∈ d.A.L → e.slot ≠ x.slot) (hnl : nodes Ls ≤ 20000) :
    Calls Try.prog 32 #[.pointer (some ⟨t, 0, none⟩)] w (DropEnd w0 w ρ P gens free D rt i t (nodes Ls)) := by
  have hcn : d.A.L.length = nodes Ls := by rw [h.cnt]; unfold handles nodes; exact List.length_map ..
  have hHa := Lib.hid (hH d.A (some ⟨P.1, 0, none⟩) w (hB.ag h.hd h.ta h.tc) (hB.ars.ar i d h.hd).bn (by omega))
  obtain ⟨c0, c1, c2, c3, c4, c5, hq⟩ := h.cells
  have hn := none_ok c1
  have hBh := Lib.hid hB
  have hTh := Lib.hid h
  have hsh := Lib.hid hsep
  replace hcn := Lib.hid hcn
  clear hB h hsep hH
  go_enter Try.func32, Try.ntmps32
  go_wp2_with fail
  refine hn.mono ?_
  clear hn
  rintro e w1 ⟨rfl, rfl⟩
  go_wp2_with fail
  refine hHa.out.mono ?_
  clear hHa
  rintro e w1 ⟨pa, pc, H, rfl, hrow, hperm, hb1⟩
  have hlen : H.length ≤ 20000 := by rw [hperm.length_eq]; simp; rw [hcn.out]; exact hnl
  have hro := hBh.out.ro
  have hI0 : Hid (DropI w0 w1 w1 ρ P gens free D i d H gens free D d) := Lib.hid ⟨hBh.out.below hb1, hTh.out.hd, rfl, rfl, rfl, hperm, rfl, rfl, ⟨rfl, fun _ _ => rfl⟩, fun _ h => h, RU.refl (hBh.out.below hb1).ro⟩
  have htb : Hid (w1.heap[t]? = some (.cells #[.pointer (some ⟨P.1, 0, none⟩), .pointer (some ⟨d.A.a, 0, none⟩), .int .i64 r.1, .int .u64 r.2, .int .i64 size, .bool false] 72)) := Lib.hid (Below.heap' hb1 hTh.out.blk)
  have hpb : Hid (∀ k x, H[k]? = some x → ∃ pb, pa = some ⟨pb, 0, none⟩ ∧ pb < w1.heap.size ∧ ρ pb = 0 ∧ H.length ≤ pc ∧ pc ≤ maxLen ∧ ∀ W, RU [1, 2, 3, 12 + 3 * i] w1 W ρ ρ → W.cell? ⟨pb, k * 2, none⟩ = some (.int .i64 x.1) ∧ W.cell? ⟨pb, k * 2 + 1, none⟩ = some (.int .u64 x.2)) := Lib.hid fun k x hx => by
    obtain ⟨pb, cap, ev, _, z1, z2, z3, z4, _, hat⟩ := hrow.at hx
    injection ev with ev _ ev2
    have hz : ρ pb = 0 := hro.far pb z1
    refine ⟨pb, ev, z2, hz, by rw [ev2]; exact z3, by rw [ev2]; exact z4, fun W hW => ?_⟩
    have hkeep := hW.block pb z2 (by rw [hz]; simp; omega)
    exact ⟨by rw [World.cell?_of_block hkeep]; simpa using hat 0 _ rfl, by rw [World.cell?_of_block hkeep]; exact hat 1 _ rfl⟩
  have hrt := hTh.out.rt4
  have hrl : Hid (ρ t = rt) := Lib.hid hTh.out.rol
  have hrel := Lib.hid fun (wr : World) gens' free' D' d' k x (hx : H[k]? = some x) (hI : DropI w0 w1 wr ρ P gens free D i d (H.drop k) gens' free' D' d') W (hW : Below wr.heap.size wr W) => by
    have hd : H.drop k = x :: H.drop (k + 1) := by
      obtain ⟨z1, z2⟩ := List.getElem?_eq_some_iff.1 hx
      rw [List.drop_eq_getElem_cons z1, z2]
    rw [hd] at hI
    exact BW.drop1 hI hTh.out.ta hTh.out.tc hsh.out hW
  have hfin : Hid (∀ wr gens' free' D' d', DropI w0 w1 wr ρ P gens free D i d [] gens' free' D' d' → DropEnd w0 w ρ P gens free D rt i t (nodes Ls) (.returned (.tuple #[])) ((wr.setCell ⟨t, 4, none⟩ (.int .i64 0)).setCell ⟨t, 5, none⟩ (.bool true))) := Lib.hid fun wr gens' free' D' d' hI => by
    have hr1 : rt ∉ [1, 2, 3, 12 + 3 * i] := by simp; omega
    have hu : Upd [t] wr ((wr.setCell ⟨t, 4, none⟩ (.int .i64 0)).setCell ⟨t, 5, none⟩ (.bool true)) := ((Upd.refl _ _).setCell (by simp) _).setCell (by simp) _
    have hU : RU [rt] wr ((wr.setCell ⟨t, 4, none⟩ (.int .i64 0)).setCell ⟨t, 5, none⟩ (.bool true)) ρ ρ := RU.upd hI.bw.ro hu (fun k hk _ => by simp at hk; subst hk; simp [hrl.out])
    have htw := hI.ru.heap htb.out (by rw [hrl.out]; exact hr1)
    have he : d'.A.L = [] := by
      have := hI.hs.length_eq
      simp at this
      exact List.length_eq_zero_iff.1 this.symm
    have hcn2 := hI.cn
    rw [he, hcn.out] at hcn2
    refine ⟨rfl, gens', free', D', d', ⟨hI.bw.ro.step hU (by simp; omega), hI.bw.ars.ru hU (by simp; omega)⟩, ⟨hI.hd, by rw [hI.ta]; exact hTh.out.ta, by rw [hI.tc]; exact hTh.out.tc, hrt, hrl.out, ⟨r.1, r.2, ?_⟩, he⟩, hI.gl, by simpa using hcn2, hI.oth, ?_⟩
    · rw [heap_self, heap_self, htw, hI.aa]
      rfl
    · exact ((RU.below (rs := []) hro hb1).mono (by simp)).trans ((hI.ru.mono (by simp)).trans (hU.mono (by simp)))
  obtain ⟨n, hn⟩ : ∃ n, n = H.length := ⟨_, rfl⟩
  rw [← hn] at hlen hpb ⊢
  replace hn := Lib.hid hn
  clear c0 c1 c2 c3 c4 c5 hq hrow hperm hb1 hro hBh hTh hsh hcn hnl
  go_wp2_with fail
  go_loopg [18] n (fun gk v wr => ∃ (k : Nat) (gens' : List Int) (free' : List Bool) (D' : List ArD) (d' : ArD), gk = n - k ∧ k ≤ n ∧ v = .int .i64 k ∧ DropI w0 w1 wr ρ P gens free D i d (H.drop k) gens' free' D' d')
  case atStart => exact ⟨0, gens, free, D, d, rfl, by omega, rfl, hI0.out⟩
  case round =>
    clear hI0
    obtain ⟨k, gens', free', D', d', rfl, hk, rfl, hI⟩ := hrel
    have htw := hI.ru.heap htb.out (by rw [hrl.out]; simp; omega)
    have c1 : wr.cell? ⟨t, 1, none⟩ = some (.pointer (some ⟨d.A.a, 0, none⟩)) := by rw [cell_of_heap htw]; rfl
    have c4 : wr.cell? ⟨t, 4, none⟩ = some (.int .i64 size) := by rw [cell_of_heap htw]; rfl
    have c5 : wr.cell? ⟨t, 5, none⟩ = some (.bool false) := by rw [cell_of_heap htw]; rfl
    have f4 : wr.frozen? ⟨t, 4, none⟩ = false := frozen_of_heap htw _
    have f5 : wr.frozen? ⟨t, 5, none⟩ = false := frozen_of_heap htw _
    have hqt := heap_lt htw
    clear htw
    by_cases hlt : k < n
    · obtain ⟨x, hx⟩ : ∃ x, H[k]? = some x := ⟨_, List.getElem?_eq_getElem (by have := hn.out; omega)⟩
      obtain ⟨pb, rfl, hpl, hp0, hp1, hp2, hcl⟩ := hpb.out k x hx
      obtain ⟨k0, k1⟩ := hcl wr hI.ru
      have hpw := block_lt_of_cell k0
      have hRel := Lib.hid fun W hW => hrel.out wr gens' free' D' d' k x hx hI W hW
      obtain ⟨x1, x2⟩ := x
      simp only at k0 k1 hRel
      have hA : Below wr.heap.size wr (wr.alloc (.cells #[.int .i64 x1, .int .u64 x2] 70)) := (Below.refl _ _).alloc (Nat.le_refl _) _
      have hbx := heap_alloc_new wr (.cells #[.int .i64 x1, .int .u64 x2] 70)
      have hA2 : (k : Int) < (n : Int) := by omega
      have hA3 : (0 : Int) ≤ (k : Int) := by omega
      have hw1 : IntKind.i64.wrap ((k : Int) + 1) = (k : Int) + 1 := IntWalk.i64_in _ (by omega)
      unfold maxLen at hp2
      clear hx hI hcl f4 f5 c4 c5 hpb hfin hrel
      go_upto_region 4 with fail
      generalize wr.alloc (.cells #[.int .i64 x1, .int .u64 x2] 70) = W1 at *
      have b0 : W1.cell? ⟨wr.heap.size, 0, none⟩ = some (.int .i64 x1) := by rw [cell_of_heap hbx]; rfl
      have b1 : W1.cell? ⟨wr.heap.size, 1, none⟩ = some (.int .u64 x2) := by rw [cell_of_heap hbx]; rfl
      have c1' := keep hA c1
      have hq1 := block_lt_of_cell c1'
      have hqb := heap_lt hbx
      have hAd := Lib.hid hA.drew
      clear k0 k1 c1 hA hbx
      go_region_with (go_at_call 60; refine (hRel.out _ hAd.out).mono ?_; rintro z w5 ⟨rfl, gens2, free2, D2, d2, hI2, hU2⟩; replace hI2 := Lib.hid hI2; clear hU2)
      all_goals
        go_wp2_with fail
        go_roundg (n - (k + 1))
        case rel => exact ⟨k + 1, gens2, free2, D2, d2, rfl, by omega, by go_num, hI2.out⟩
        case measure => omega
    · obtain rfl : n = k := by omega
      have hd0 : H.drop n = [] := List.drop_eq_nil_of_le (by have := hn.out; omega)
      rw [hd0] at hI
      have hE := Lib.hid (hfin.out wr gens' free' D' d' hI)
      clear hI hd0 hrel hpb hfin c1
      go_wp2_with fail
      go_end0
      exact hE.out
end
/-! ### A tree that is gone -/
section
variable {w0 w : World} {ρ : Nat → Nat} {P : Nat × Nat × Nat} {gens : List Int} {free : List Bool} {D : List ArD} {rt i t : Nat} {d : ArD}
theorem Gone.ru {w' : World} {ρ' : Nat → Nat} {rs : List Nat} (h : Gone w ρ P D rt i t d) (hu : RU rs w w' ρ ρ') (hr : rt ∉ rs) : Gone w' ρ' P D rt i t d := by
  obtain ⟨r1, r2, hb⟩ := h.blk
  exact ⟨h.hd, h.ta, h.tc, h.rt4, by rw [hu.role _ (heap_lt hb)]; exact h.rol, ⟨r1, r2, hu.heap hb (by rw [h.rol]; exact hr)⟩, h.emp⟩
theorem Gone.below {w' : World} (h : Gone w ρ P D rt i t d) (hB : BW w0 w ρ P gens free D) (hb : Below w.heap.size w w') : Gone w' ρ P D rt i t d := h.ru (RU.below (rs := []) hB.ro hb) (by simp)
theorem Gone.cells (h : Gone w ρ P D rt i t d) : ∃ r1 r2, w.cell? ⟨t, 1, none⟩ = some (.pointer (some ⟨d.A.a, 0, none⟩)) ∧ w.cell? ⟨t, 2, none⟩ = some (.int .i64 r1) ∧ w.cell? ⟨t, 3, none⟩ = some (.int .u64 r2) ∧ w.cell? ⟨t, 4, none⟩ = some (.int .i64 0) ∧ w.cell? ⟨t, 5, none⟩ = some (.bool true) ∧ t < w.heap.size := by
  obtain ⟨r1, r2, hb⟩ := h.blk
  refine ⟨r1, r2, ?_, ?_, ?_, ?_, ?_, heap_lt hb⟩ <;> rw [cell_of_heap hb] <;> rfl
theorem Gone.put (h : Gone w ρ P D rt i t d) (key value : Str) : Calls Try.prog 25 #[.pointer (some ⟨t, 0, none⟩), .string key, .string value] w fun e w' => e = .returned (.tuple #[.string s0, .bool false, .int .i64 8]) ∧ Below w.heap.size w w' := by
  obtain ⟨r1, r2, c1, c2, c3, c4, c5, hq⟩ := h.cells
  have hn := none_ok c1
  clear h
  go_enter Try.func25, Try.ntmps25
  go_wp2_with fail
  refine hn.mono ?_
  rintro e w1 ⟨rfl, rfl⟩
  go_wp2_with fail
  go_ret3
  exact ⟨rfl, Below.refl _ _⟩
theorem Gone.delete (h : Gone w ρ P D rt i t d) (key : Str) : Calls Try.prog 26 #[.pointer (some ⟨t, 0, none⟩), .string key] w fun e w' => e = .returned (.tuple #[.string s0, .bool false]) ∧ Below w.heap.size w w' := by
  obtain ⟨r1, r2, c1, c2, c3, c4, c5, hq⟩ := h.cells
  have hn := none_ok c1
  clear h
  go_enter Try.func26, Try.ntmps26
  go_wp2_with fail
  refine hn.mono ?_
  rintro e w1 ⟨rfl, rfl⟩
  go_wp2_with fail
  go_ret2
  exact ⟨rfl, Below.refl _ _⟩
theorem Gone.drop (h : Gone w ρ P D rt i t d) : Calls Try.prog 32 #[.pointer (some ⟨t, 0, none⟩)] w fun e w' => e = .returned (.tuple #[]) ∧ w = w' := by
  obtain ⟨r1, r2, c1, c2, c3, c4, c5, hq⟩ := h.cells
  have hn := none_ok c1
  clear h
  go_enter Try.func32, Try.ntmps32
  go_wp2_with fail
  refine hn.mono ?_
  rintro e w1 ⟨rfl, rfl⟩
  go_wp2_with fail
  refine bodyPost_ret (v := .tuple #[]) (by simp [results, Try.results32, go_sem]) rfl ⟨rfl, rfl⟩
theorem Gone.len (h : Gone w ρ P D rt i t d) : Calls Try.prog 24 #[.pointer (some ⟨t, 0, none⟩)] w fun e w' => e = .returned (.int .i64 0) ∧ w = w' := by
  obtain ⟨r1, r2, c1, c2, c3, c4, c5, hq⟩ := h.cells
  have hn := none_ok c1
  clear h
  go_enter Try.func24, Try.ntmps24
  go_wp2_with fail
  refine hn.mono ?_
  rintro e w1 ⟨rfl, rfl⟩
  go_wp2_with fail
  go_ret
  exact ⟨rfl, rfl⟩
theorem Gone.live (hB : BW w0 w ρ P gens free D) (h : Gone w ρ P D rt i t d) : Calls Try.prog 48 #[.pointer (some ⟨d.A.a, 0, none⟩)] w fun e w' => e = .returned (.int .i64 0) ∧ Below w.heap.size w w' := by
  have := ANode.gLive d.A [] _ w (hB.ag h.hd h.ta h.tc)
  rw [h.emp] at this
  exact this
theorem Gone.slots (hB : BW w0 w ρ P gens free D) (h : Gone w ρ P D rt i t d) : Calls Try.prog 29 #[.pointer (some ⟨t, 0, none⟩)] w fun e w' => e = .returned (.int .i64 0) ∧ Below w.heap.size w w' := by
  obtain ⟨r1, r2, c1, c2, c3, c4, c5, hq⟩ := h.cells
  have hn := none_ok c1
  have hl := Lib.hid (h.live hB)
  clear h hB
  go_enter Try.func29, Try.ntmps29
  go_wp2_with fail
  refine hn.mono ?_
  rintro e w1 ⟨rfl, rfl⟩
  go_wp2_with fail
  refine hl.out.mono ?_
  rintro e w2 ⟨rfl, hb⟩
  go_wp2_with fail
  go_ret
  exact ⟨rfl, hb⟩
end
end Go.Proofs.Ytlhobbfncjjeaaa
namespace Go.Proofs.Ytlhobbfncjjeaaa
open Go.RowKit
section
variable {w0 w w' : World} {ρ ρ' : Nat → Nat} {P : Nat × Nat × Nat} {gens : List Int} {free : List Bool} {D D' : List ArD} {rs : List Nat} {rt i t : Nat} {d : ArD} {Ls : List Lev} {r : Hd} {size : Nat}
theorem Tr.inD (h : Tr w ρ P D rt i t d Ls r size) (hd : D'[i]? = some d) : Tr w ρ P D' rt i t d Ls r size :=
  ⟨hd, h.ta, h.tc, h.rt4, h.rol, h.blk, h.top, h.ent, h.nod, h.cnt, h.tow, h.thk⟩
end
theorem at_ruT {α : Type} {k : Nat} {f : α → List Value} {a : Option Addr} {c : Nat} {L : List α} {w w' : World} {ρ ρ' : Nat → Nat} {rs : List Nat} (h : At w k f a c L) (hu : RU rs w w' ρ ρ') (hb : ∀ b, b ∈ bks a L → ρ b ∉ rs) : At w' k f a c L ∧ ∀ b, b ∈ bks a L → b < w.heap.size := by
  obtain ⟨h1, h2, h3⟩ := h
  rcases h3 with ⟨rfl, h3⟩ | ⟨b, o, rfl, h4, h5⟩
  · exact ⟨⟨h1, h2, .inl ⟨rfl, h3⟩⟩, fun b hb => by cases L <;> simp [bks] at hb⟩
  · refine ⟨⟨h1, h2, .inr ⟨b, o, rfl, fun hn => Nat.lt_of_lt_of_le (h4 hn) hu.size, fun i x hx j y hy => ?_⟩⟩, fun b' hb' => ?_⟩
    · have hn : L ≠ [] := by intro e; rw [e] at hx; simp at hx
      have hr : b ∈ bks (some ⟨b, o, none⟩) L := by
        cases L with
        | nil => exact absurd rfl hn
        | cons x L => simp [bks]
      rw [World.cell?_of_block (hu.block b (h4 hn) (hb b hr))]
      exact h5 i x hx j y hy
    · cases L with
      | nil => simp [bks] at hb'
      | cons x L =>
        simp [bks] at hb'
        subst hb'
        exact h4 (by simp)
theorem row_bksT {base : Nat} {e : TypeId} {w : World} {a : Option Addr} {c : Nat} {C : Cont} (h : Row base e 2 pcel w (.slice a C.length c) C) : ∀ b, b ∈ bks a C → base ≤ b := by
  intro b hb
  unfold bks at hb
  cases C with
  | nil => simp at hb
  | cons x C =>
    rcases h.cases with ⟨_, h1⟩ | ⟨g, cap, e, h2, _⟩
    · cases h1
    · injection e with e _ _
      subst e
      simp at hb
      subst hb
      exact h2
/-- A row of pairs that nobody writes. -/
def Kp (w : World) (ρ : Nat → Nat) (aa : Option Addr) (ac : Nat) (C : Cont) : Prop := At w 2 pcel aa ac C ∧ ∀ b, b ∈ bks aa C → ρ b = 0
theorem Kp.ru {w w' : World} {ρ ρ' : Nat → Nat} {rs : List Nat} {aa : Option Addr} {ac : Nat} {C : Cont} (h : Kp w ρ aa ac C) (hu : RU rs w w' ρ ρ') (h0 : 0 ∉ rs) : Kp w' ρ' aa ac C := by
  obtain ⟨h1, h2⟩ := at_ruT h.1 hu (fun b hb => by rw [h.2 b hb]; exact h0)
  exact ⟨h1, fun b hb => by rw [hu.role b (h2 b hb)]; exact h.2 b hb⟩
/-- Nothing of arena i stands where something of another one does. -/
def Sep (D : List ArD) (i : Nat) (d : ArD) : Prop := ∀ j dj e x, j ≠ i → D[j]? = some dj → e ∈ dj.A.L → x ∈ d.A.L → e.slot ≠ x.slot
theorem Sep.same {D D' : List ArD} {i : Nat} {d d' : ArD} (h : Sep D i d) (hd : D[i]? = some d) (hd' : D'[i]? = some d') (hs : SameD i D D') : Sep D' i d' := fun j dj e x hj hD he hx => by
  rw [hs.2.1 j hj] at hD
  rcases hs.2.2 d' x hd' hx with ⟨d0, e0, z1, z2, z3⟩ | z
  · rw [hd] at z1
    injection z1 with z1
    subst z1
    rw [← z3]
    exact h j dj e e0 hj hD he z2
  · exact z j dj e hj hD he
/-- Two trees of one pool: a with content Ca and na nodes; b with content Cb and at most lvb leaves. -/
def Two (w0 w : World) (p ta tb : Nat) (Ca : Cont) (na : Nat) (aa : Option Addr) (ac : Nat) (Cb : Cont) (lvb : Nat) : Prop :=
  ∃ ρ P gens free D rta ia da Lsa ra rtb ib db Lsb rb, (P.1 = p ∧ gens.length = 4096) ∧ BW w0 w ρ P gens free D ∧ (Tr w ρ P D rta ia ta da Lsa ra Ca.length ∧ Slim Lsa ∧ content Lsa = Ca ∧ nodes Lsa = na) ∧
    (Tr w ρ P D rtb ib tb db Lsb rb Cb.length ∧ Slim Lsb ∧ content Lsb = Cb ∧ leaves Lsb ≤ lvb) ∧ free.count true + na + nodes Lsb = 4096 ∧ ia ≠ ib ∧ rta ≠ rtb ∧ Sep D ib db ∧ Kp w ρ aa ac Ca
/-- b was dropped. -/
def OneG (w0 w : World) (p ta tb : Nat) (Ca : Cont) (na : Nat) (aa : Option Addr) (ac : Nat) : Prop :=
  ∃ ρ P gens free D rta ia da Lsa ra rtb ib db, (P.1 = p ∧ gens.length = 4096) ∧ BW w0 w ρ P gens free D ∧ (Tr w ρ P D rta ia ta da Lsa ra Ca.length ∧ Slim Lsa ∧ content Lsa = Ca ∧ nodes Lsa = na) ∧ Gone w ρ P D rtb ib tb db ∧ free.count true + na = 4096 ∧ Kp w ρ aa ac Ca
section
variable {w0 w w' : World} {p ta tb na lvb ac : Nat} {Ca Cb : Cont} {aa : Option Addr}
theorem pool_live {ρ : Nat → Nat} {P : Nat × Nat × Nat} {gens : List Int} {free : List Bool} {D : List ArD} (hB : BW w0 w ρ P gens free D) (h1 : P.1 = p ∧ gens.length = 4096) {n : Nat} (hc : free.count true + n = 4096) :
    Calls Try.prog 30 #[.pointer (some ⟨p, 0, none⟩)] w fun e w' => e = .returned (.int .i64 n) ∧ Below w.heap.size w w' := by
  obtain ⟨pa, g, f⟩ := P
  obtain ⟨hp, _, _, _⟩ := hB.ars.pool
  have hl := hp.1
  obtain ⟨h11, h12⟩ := h1
  simp only at h11
  subst h11
  refine (pLive_any _ g f gens free w hp).mono ?_
  rintro e w' ⟨he, hb⟩
  refine ⟨?_, hb⟩
  rw [he]
  congr 2
  omega
theorem Two.below (h : Two w0 w p ta tb Ca na aa ac Cb lvb) (hb : Below w.heap.size w w') : Two w0 w' p ta tb Ca na aa ac Cb lvb := by
  obtain ⟨ρ, P, gens, free, D, rta, ia, da, Lsa, ra, rtb, ib, db, Lsb, rb, h1, hB, ⟨a1, a2⟩, ⟨b1, b2⟩, h4⟩ := h
  exact ⟨ρ, P, gens, free, D, rta, ia, da, Lsa, ra, rtb, ib, db, Lsb, rb, h1, hB.below hb, ⟨a1.below hB hb, a2⟩, ⟨b1.below hB hb, b2⟩, h4.1, h4.2.1, h4.2.2.1, h4.2.2.2.1, h4.2.2.2.2.ru (RU.below (rs := []) hB.ro hb) (by simp)⟩
theorem Two.bel (h : Two w0 w p ta tb Ca na aa ac Cb lvb) : Below w0.heap.size w0 w := by
  obtain ⟨ρ, P, gens, free, D, rta, ia, da, Lsa, ra, rtb, ib, db, Lsb, rb, h1, hB, _⟩ := h
  exact hB.ro.bel
theorem Two.up (h : Two w0 w p ta tb Ca na aa ac Cb lvb) {l : Nat} (hl : lvb ≤ l) : Two w0 w p ta tb Ca na aa ac Cb l := by
  obtain ⟨ρ, P, gens, free, D, rta, ia, da, Lsa, ra, rtb, ib, db, Lsb, rb, h1, hB, ha, ⟨b1, b2, b3, b4⟩, h4⟩ := h
  exact ⟨ρ, P, gens, free, D, rta, ia, da, Lsa, ra, rtb, ib, db, Lsb, rb, h1, hB, ha, ⟨b1, b2, b3, Nat.le_trans b4 hl⟩, h4⟩
theorem Two.sorted (h : Two w0 w p ta tb Ca na aa ac Cb lvb) : CSort Cb := by
  obtain ⟨ρ, P, gens, free, D, rta, ia, da, Lsa, ra, rtb, ib, db, Lsb, rb, h1, hB, ha, ⟨b1, b2, b3, b4⟩, h4⟩ := h
  rw [← b3]; exact b1.tow.sorted
/-- A second tree. -/
theorem Two.new {lv : Nat} {fat : Bool} (h : TreeIs w0 w p ta Ca 4096 lv fat) (hl : lv ≤ 301) :
    ∃ na : Nat, (∀ W, Below w.heap.size w W → Calls Try.prog 30 #[.pointer (some ⟨p, 0, none⟩)] W fun e w' => e = .returned (.int .i64 na) ∧ Below W.heap.size W w') ∧ na ≤ 602 ∧
      ∀ W aa ac, Below w.heap.size w W → At W 2 pcel aa ac Ca → (∀ b, b ∈ bks aa Ca → w.heap.size ≤ b) → Calls Try.prog 11 #[.pointer (some ⟨p, 0, none⟩)] W fun e w' => ∃ tb, e = .returned (.tuple #[.pointer (some ⟨tb, 0, none⟩), .int .i64 0]) ∧ Two w0 w' p ta tb Ca na aa ac [] 1 := by
  obtain ⟨ρ, P, gens, free, D, rta, ia, da, Lsa, ra, h1, hB, h3, h4, h5, h6, h7, h8⟩ := h
  obtain ⟨s1, s2, s3⟩ := h3.tow.size h3.thk
  refine ⟨nodes Lsa, fun W hW => pool_live (hB.below hW) h1 h6, by omega, fun W aa ac hW hA hAb => ?_⟩
  have hfr : true ∈ free := List.count_pos_iff.1 (by omega)
  have hrt := h3.rt4
  have hN := bkNew_some (rt := 9 - rta) (hB.below hW) hfr (by omega)
  rw [h1.1] at hN
  refine hN.mono ?_
  rintro e w' ⟨tb, ρ', db, rb, he, hB', hT', hU', hsp⟩
  have hia := (List.getElem?_eq_some_iff.1 h3.hd).1
  refine ⟨tb, he, ρ', P, gens, _, D ++ [db], rta, ia, da, Lsa, ra, 9 - rta, D.length, db, _, rb, h1, hB', ⟨?_, h4, h5, rfl⟩, ⟨hT', slim0 rb, by simp [content, cont, BN.pairs, leaf0], Nat.le_refl 1⟩, ?_, by omega, by omega, fun j dj e x hj hD he hx => ?_, Kp.ru (rs := [1, 2, 3, 12 + 3 * D.length]) ⟨hA, fun b hb => hB.ro.far b (hAb b hb)⟩ hU' (by simp; omega)⟩
  · exact ((h3.below hB hW).ru hU' (by simp; omega) (by simp; omega)).inD (by rw [List.getElem?_append_left hia]; exact h3.hd)
  · have := count_one hfr
    have h2 : nodes [[(rb, leaf0)]] = 1 := rfl
    rw [h2]
    omega
  · rcases Nat.lt_or_ge j D.length with h9 | h9
    · rw [List.getElem?_append_left h9] at hD
      exact hsp j dj e x hj hD he hx
    · rw [List.getElem?_eq_none (by simp; omega)] at hD
      cases hD
theorem Two.put (h : Two w0 w p ta tb Ca na aa ac Cb lvb) (hna : na ≤ 602) (hlv : lvb ≤ 301) (hC : Cb.length ≤ 100000) (key value : Str) :
    Calls Try.prog 25 #[.pointer (some ⟨tb, 0, none⟩), .string key, .string value] w fun e w' => ∃ old had, e = .returned (.tuple #[.string old, .bool had, .int .i64 0]) ∧ Two w0 w' p ta tb Ca na aa ac (cput Cb key value) (lvb + 1) := by
  obtain ⟨ρ, P, gens, free, D, rta, ia, da, Lsa, ra, rtb, ib, db, Lsb, rb, h1, hB, ⟨a1, a2, a3, a4⟩, ⟨b1, b2, b3, b4⟩, hc, hi, hr, hsp, hkp⟩ := h
  have hn := b1.tow.room b1.thk (c := free.count true) (c0 := 4096 - na) (lv := lvb) (h := 9) (by omega) b4 (by omega) (by omega) key
  have hra := a1.rt4
  have hrb := b1.rt4
  refine (b1.put hB b2 (TreeIs.hll b1.tow b1.thk b4 (by omega)).1 (by omega) key value).mono ?_
  rintro e w' (⟨_, he, ρ', D', d', free', Ls', r', q1, q2, q3, q4, q5, q6, q7, q8, q9, q10, q11, _⟩ | ⟨_, hlt, _⟩)
  · rw [b3] at he q4 q5
    refine ⟨_, _, he, ρ', P, gens, free', D', rta, ia, da, Lsa, ra, rtb, ib, d', Ls', r', h1, q1, ⟨?_, a2, a3, a4⟩, ⟨?_, q6, q5, by omega⟩, by omega, hi, hr, hsp.same b1.hd q4.hd q9, hkp.ru q2 (by simp; omega)⟩
    · exact (a1.ru q2 (by simp; omega) (by simp; omega)).inD (by rw [q9.2.1 ia hi]; exact a1.hd)
    · have hs : CSort Cb := by rw [← b3]; exact b1.tow.sorted
      rw [cput_len hs]
      exact q4
  · omega
theorem Two.delete (h : Two w0 w p ta tb Ca na aa ac Cb lvb) (hlv : lvb ≤ 301) (hC : Cb.length ≤ 100000) (key : Str) :
    Calls Try.prog 26 #[.pointer (some ⟨tb, 0, none⟩), .string key] w fun e w' => ∃ old had, e = .returned (.tuple #[.string old, .bool had]) ∧ Two w0 w' p ta tb Ca na aa ac (cdel Cb key) lvb := by
  obtain ⟨ρ, P, gens, free, D, rta, ia, da, Lsa, ra, rtb, ib, db, Lsb, rb, h1, hB, ⟨a1, a2, a3, a4⟩, ⟨b1, b2, b3, b4⟩, hc, hi, hr, hsp, hkp⟩ := h
  have hra := a1.rt4
  have hrb := b1.rt4
  have hs : CSort Cb := by rw [← b3]; exact b1.tow.sorted
  obtain ⟨l1, l2⟩ := cdel_len hs key
  refine (b1.delete hB (slim_flat b2) (TreeIs.hll b1.tow b1.thk b4 (by omega)).1 (by omega) key (by rw [b3]; exact l2)).mono ?_
  rintro e w' ⟨he, ρ', D', d', Ls', q1, q2, q3, q4, q5, q6, q7, q8, q9, q10⟩
  rw [b3] at he q2 q3
  refine ⟨_, _, he, ρ', P, gens, free, D', rta, ia, da, Lsa, ra, rtb, ib, d', Ls', rb, h1, q1, ⟨?_, a2, a3, a4⟩, ⟨by rw [l1]; exact q2, q4 b2, q3, by omega⟩, by omega, hi, hr, hsp.same b1.hd q2.hd q7, hkp.ru q5 (by simp; omega)⟩
  exact (a1.ru q5 (by simp; omega) (by simp; omega)).inD (by rw [q7.2.1 ia hi]; exact a1.hd)
/-- How many nodes, and how many slots are taken. -/
theorem Two.counts (h : Two w0 w p ta tb Ca na aa ac Cb lvb) : ∃ nb : Nat, ∀ W, Below w.heap.size w W →
    (Calls Try.prog 29 #[.pointer (some ⟨ta, 0, none⟩)] W fun e w' => e = .returned (.int .i64 na) ∧ Below W.heap.size W w') ∧ (Calls Try.prog 29 #[.pointer (some ⟨tb, 0, none⟩)] W fun e w' => e = .returned (.int .i64 nb) ∧ Below W.heap.size W w') ∧
      (Calls Try.prog 30 #[.pointer (some ⟨p, 0, none⟩)] W fun e w' => e = .returned (.int .i64 ((na + nb : Nat) : Int)) ∧ Below W.heap.size W w') ∧ (lvb = 1 → nb = 1) ∧ na + nb ≤ 4096 := by
  obtain ⟨ρ, P, gens, free, D, rta, ia, da, Lsa, ra, rtb, ib, db, Lsb, rb, h1, hB, ⟨a1, a2, a3, a4⟩, ⟨b1, b2, b3, b4⟩, hc, hi, hr, hsp, hkp⟩ := h
  obtain ⟨s1, s2, s3⟩ := b1.tow.size b1.thk
  refine ⟨nodes Lsb, fun W hW => ⟨?_, (b1.below hB hW).slots (hB.below hW), pool_live (hB.below hW) h1 (by omega), fun hl => ?_, by omega⟩⟩
  · have := (a1.below hB hW).slots (hB.below hW)
    rw [a4] at this
    exact this
  · have h2 : nodes Lsb ≤ 1 := by omega
    have h3 : 0 < nodes Lsb := by
      obtain ⟨n0, h0⟩ := b1.top
      have := mem_flat h0 (x := (rb, n0)) (by simp)
      unfold nodes
      exact List.length_pos_of_mem this
    omega
theorem Two.checkB (h : Two w0 w p ta tb Ca na aa ac Cb lvb) (hlv : lvb ≤ 10000) (hC : Cb.length ≤ 100000) : Calls Try.prog 19 #[.pointer (some ⟨tb, 0, none⟩)] w fun e w' => e = .returned (.bool true) ∧ Below w.heap.size w w' := by
  obtain ⟨ρ, P, gens, free, D, rta, ia, da, Lsa, ra, rtb, ib, db, Lsb, rb, h1, hB, ⟨a1, a2, a3, a4⟩, ⟨b1, b2, b3, b4⟩, hc, hi, hr, hsp, hkp⟩ := h
  exact b1.check hB b2 (by have := (TreeIs.hll b1.tow b1.thk b4 hlv).2; omega) (by rw [b3]; exact hC) (by rw [b3])
theorem Two.dropB (hH : HandsOK) (h : Two w0 w p ta tb Ca na aa ac Cb lvb) (hlv : lvb ≤ 10000) : Calls Try.prog 32 #[.pointer (some ⟨tb, 0, none⟩)] w fun e w' => e = .returned (.tuple #[]) ∧ OneG w0 w' p ta tb Ca na aa ac := by
  obtain ⟨ρ, P, gens, free, D, rta, ia, da, Lsa, ra, rtb, ib, db, Lsb, rb, h1, hB, ⟨a1, a2, a3, a4⟩, ⟨b1, b2, b3, b4⟩, hc, hi, hr, hsp, hkp⟩ := h
  have hra := a1.rt4
  have hrb := b1.rt4
  refine (b1.drop hH hB hsp (TreeIs.hll b1.tow b1.thk b4 hlv).2).mono ?_
  rintro e w' ⟨he, gens', free', D', d', q1, q2, q3, q4, q5, q6⟩
  refine ⟨he, ρ, P, gens', free', D', rta, ia, da, Lsa, ra, rtb, ib, d', ⟨h1.1, by omega⟩, q1, ⟨?_, a2, a3, a4⟩, q2, by omega, hkp.ru q6 (by simp; omega)⟩
  exact (a1.ru q6 (by simp; omega) (by simp; omega)).inD (by rw [q5.2 ia hi]; exact a1.hd)
theorem OneG.below (h : OneG w0 w p ta tb Ca na aa ac) (hb : Below w.heap.size w w') : OneG w0 w' p ta tb Ca na aa ac := by
  obtain ⟨ρ, P, gens, free, D, rta, ia, da, Lsa, ra, rtb, ib, db, h1, hB, ⟨a1, a2⟩, h3, h4⟩ := h
  exact ⟨ρ, P, gens, free, D, rta, ia, da, Lsa, ra, rtb, ib, db, h1, hB.below hb, ⟨a1.below hB hb, a2⟩, h3.below hB hb, h4.1, h4.2.ru (RU.below (rs := []) hB.ro hb) (by simp)⟩
theorem OneG.bel (h : OneG w0 w p ta tb Ca na aa ac) : Below w0.heap.size w0 w := by
  obtain ⟨ρ, P, gens, free, D, rta, ia, da, Lsa, ra, rtb, ib, db, h1, hB, _⟩ := h
  exact hB.ro.bel
/-- What is left when b is gone. -/
theorem OneG.all (h : OneG w0 w p ta tb Ca na aa ac) (hC : Ca.length ≤ 100000) (hna : na ≤ 100000) :
    (Calls Try.prog 32 #[.pointer (some ⟨tb, 0, none⟩)] w fun e w' => e = .returned (.tuple #[]) ∧ w = w') ∧
    (∀ key value, Calls Try.prog 25 #[.pointer (some ⟨tb, 0, none⟩), .string key, .string value] w fun e w' => e = .returned (.tuple #[.string s0, .bool false, .int .i64 8]) ∧ Below w.heap.size w w') ∧
    (Calls Try.prog 24 #[.pointer (some ⟨tb, 0, none⟩)] w fun e w' => e = .returned (.int .i64 0) ∧ w = w') ∧
    (Calls Try.prog 29 #[.pointer (some ⟨tb, 0, none⟩)] w fun e w' => e = .returned (.int .i64 0) ∧ Below w.heap.size w w') ∧
    (Calls Try.prog 30 #[.pointer (some ⟨p, 0, none⟩)] w fun e w' => e = .returned (.int .i64 na) ∧ Below w.heap.size w w') ∧
    (Calls Try.prog 29 #[.pointer (some ⟨ta, 0, none⟩)] w fun e w' => e = .returned (.int .i64 na) ∧ Below w.heap.size w w') ∧
    (Calls Try.prog 19 #[.pointer (some ⟨ta, 0, none⟩)] w fun e w' => e = .returned (.bool true) ∧ Below w.heap.size w w') ∧ Calls Try.prog 22 #[.pointer (some ⟨ta, 0, none⟩)] w (AllEnd w Ca) ∧ At w 2 pcel aa ac Ca := by
  obtain ⟨ρ, P, gens, free, D, rta, ia, da, Lsa, ra, rtb, ib, db, h1, hB, ⟨a1, a2, a3, a4⟩, hG, hc, hkp⟩ := h
  have hs := a1.slots hB
  rw [a4] at hs
  have hal := a1.all hB (slim_flat a2) (by rw [a3]; exact hC)
  rw [a3] at hal
  exact ⟨hG.drop, fun k v => hG.put k v, hG.len, hG.slots hB, pool_live hB h1 hc, hs, a1.check hB a2 (by omega) (by rw [a3]; exact hC) (by rw [a3]), hal, hkp.1⟩
end
end Go.Proofs.Ytlhobbfncjjeaaa
