/- The contract of a B-link tree's Delete. -/
import Derived.Test.YtlhobbfncjjeaaaBkSplit3
import Derived.Test.YtlhobbfncjjeaaaBkDel
import Derived.Test.YtlhobbfncjjeaaaBkPutL
namespace Go.Proofs.Ytlhobbfncjjeaaa
open Go.RowKit
/-- A leaf's key less. -/
theorem Tower.del {Ls : List Lev} (ht : Tower Ls) (hk : Thick Ls) {S : Lev} {key : Str} {y : Hd × BN} (hS : Ls[0]? = some S) (hy : atK S key = some y) :
    ∃ A B, S = A ++ y :: B ∧ Tower (Ls.set 0 (A ++ (y.1, y.2.del key) :: B)) ∧ Thick (Ls.set 0 (A ++ (y.1, y.2.del key) :: B)) ∧ content (Ls.set 0 (A ++ (y.1, y.2.del key) :: B)) = cdel (content Ls) key ∧ (Slim Ls → Slim (Ls.set 0 (A ++ (y.1, y.2.del key) :: B))) := by
  have hok := ht.ok _ _ hS
  obtain ⟨hm, hc⟩ := atK_mem hy
  obtain ⟨l, hl⟩ := hok.node hm
  have hlf : y.2.leaf = true := hok.lf y hm
  obtain ⟨A, B, e, _, hA⟩ := atK_split hy
  obtain ⟨hh, n⟩ := y
  simp only at hl hlf hc ⊢
  have hseg := hok.seg
  rw [e] at hseg
  obtain ⟨s1, s2⟩ := cont_sides hseg hA hc
  have hends : (n.del key).high = n.high ∧ (n.del key).bnd = n.bnd ∧ (n.del key).next = n.next ∧ (n.del key).leaf = n.leaf ∧ (n.del key).keys.length ≤ n.keys.length := by
    unfold BN.del
    split
    · exact ⟨rfl, rfl, rfl, rfl, List.length_eraseIdx_le ..⟩
    · exact ⟨rfl, rfl, rfl, rfl, Nat.le_refl _⟩
  refine ⟨A, B, e, ht.leaf (by rw [← e]; exact hS) (fun m hm _ => hm.del hlf key) hends.1 hends.2.1 hends.2.2.1 hends.2.2.2.1, fun j R hR hj => ?_, ?_, fun hs j R hR x hx => ?_⟩
  · rcases set_get hR with ⟨e0, _⟩ | ⟨_, hR⟩
    · omega
    · exact hk j R hR hj
  · rw [content_of (get_set_self hS), content_of hS, e, cont_append, cont_cons, del_pairs hl hlf, cont_append, cont_cons, ← List.append_assoc, ← List.append_assoc, cdel_mid s1 s2]
  · rcases set_get hR with ⟨rfl, rfl⟩ | ⟨_, hR⟩
    · have hs0 := hs 0 S hS
      rw [e] at hs0
      simp only [List.mem_append, List.mem_cons] at hx
      rcases hx with hx | rfl | hx
      · exact hs0 x (by simp [hx])
      · exact Nat.le_trans hends.2.2.2.2 (hs0 (hh, n) (by simp))
      · exact hs0 x (by simp [hx])
    · exact hs j R hR x hx
section
variable {w0 w : World} {ρ : Nat → Nat} {P : Nat × Nat × Nat} {gens : List Int} {free : List Bool} {D : List ArD} {rt i t : Nat} {d : ArD} {Ls : List Lev} {r : Hd} {size : Nat}
set_option maxRecDepth 100000 in
set_option maxHeartbeats 1000000 in
theorem Tr.delete (hB : BW w0 w ρ P gens free D) (h : Tr w ρ P D rt i t d Ls r size) (hsm : ∀ x, x ∈ Ls.flatten → x.2.keys.length ≤ 1000) (hll : Ls.length ≤ 1000) (hsz : size ≤ 1000000) (key : Str) (hs1 : (cget (content Ls) key).isSome = true → 1 ≤ size) :
    Calls Try.prog 26 #[.pointer (some ⟨t, 0, none⟩), .string key] w fun e w' => e = .returned (.tuple #[.string ((cget (content Ls) key).getD s0), .bool (cget (content Ls) key).isSome]) ∧
      ∃ ρ' D' d' Ls', BW w0 w' ρ' P gens free D' ∧ Tr w' ρ' P D' rt i t d' Ls' r (if (cget (content Ls) key).isSome then size - 1 else size) ∧ content Ls' = cdel (content Ls) key ∧ (Slim Ls → Slim Ls') ∧ RU [rt, 10 + 3 * i] w w' ρ ρ' ∧ leaves Ls' = leaves Ls ∧ SameD i D D' ∧ nodes Ls' = nodes Ls ∧ ((cget (content Ls) key).isSome = false → Ls' = Ls) ∧ Evo Ls Ls' := by
  obtain ⟨S, y, hS, hy⟩ := h.leaf0 key
  obtain ⟨⟨lo, hno⟩, hlf, hg⟩ := h.tow.get hS hy
  obtain ⟨A, B, eS, tow, thk, hct, hsl⟩ := h.tow.del h.thk hS hy
  have hks := hsm _ (mem_flat hS (atK_mem hy).1)
  have hyc := (atK_mem hy).2
  have hPa := Lib.hid (h.path hB hsm hll key)
  obtain ⟨c0, c1, c2, c3, c4, c5, hq⟩ := h.cells
  have hn := none_ok c1
  obtain ⟨e, he, e1, e2, qka, qva, qha, qkc, qvc, qhc, hnat, hcel0, hG⟩ := h.entry hB (mem_flat hS (atK_mem hy).1)
  have hpg := pathOf_get hS hy
  obtain ⟨N, hN⟩ : ∃ N, N = Ls.length := ⟨_, rfl⟩
  have hN0 : 0 < N := by have := (List.getElem?_eq_some_iff.1 hS).1; omega
  have hN1 : N ≤ 1000 := by omega
  rw [← hN, Nat.sub_zero] at hpg
  have hlen : (pathOf Ls key).length = N := by rw [pathOf_len, hN]
  have hDl := Lib.hid fun W hW => nDelete_ok y.2 qka qva qha qkc qvc qhc key W hno (hnat.below (w' := W) _ _ _ _ _ _ _ hW) hks hlf hyc
  rw [hg]
  have hse : Hid (hasK key y.2.keys = true → 1 ≤ size) := Lib.hid fun hr => hs1 (by rw [hg, hr]; rfl)
  have htq := h.neq hB he
  have hBh := Lib.hid (And.intro hB h)
  have hpu := Lib.hid (And.intro eS (And.intro tow (And.intro thk (And.intro hct hsl))))
  have hee := Lib.hid (And.intro he (And.intro e1 e2))
  have hlvs := Lib.hid (show leaves (Ls.set 0 (A ++ (y.1, y.2.del key) :: B)) = leaves Ls ∧ nodes (Ls.set 0 (A ++ (y.1, y.2.del key) :: B)) = nodes Ls ∧ (hasK key y.2.keys = false → Ls.set 0 (A ++ (y.1, y.2.del key) :: B) = Ls) ∧ Evo Ls (Ls.set 0 (A ++ (y.1, y.2.del key) :: B)) from ⟨by rw [leaves_of (get_set_self hS), leaves_of hS, eS]; simp, by
    obtain ⟨X, Y, x1, x2⟩ := lev_set (S' := A ++ (y.1, y.2.del key) :: B) hS
    unfold nodes
    rw [x1, x2, eS]
    simp, fun hno => by
    have e1 : y.2.del key = y.2 := by unfold BN.del; rw [hno]; rfl
    rw [e1]
    refine List.ext_getElem? fun j => ?_
    rw [List.getElem?_set]
    split
    · rename_i hj
      subst hj
      rw [if_pos (List.getElem?_eq_some_iff.1 hS).1, hS, eS]
    · rfl, Evo.set hS (fun x hx => by
    have e1 : (y.2.del key).high = y.2.high := by unfold BN.del; split <;> rfl
    rw [eS] at hx
    rw [lows_same A s0 (x := (y.1, y.2.del key)) (y := y) B rfl e1]
    exact hx)⟩)
  have hS' := Lib.hid hS
  clear hB h hsm hll hno hlf hg eS tow thk hct hsl hnat he e1 e2 hy hyc hS hs1
  obtain ⟨⟨h1, h2⟩, n⟩ := y
  simp only at hDl hcel0 hG hpg hse hks ⊢
  obtain ⟨x1, x2, x3, x4, x5, x6, x7, x8⟩ := node_cells1 n qka qva qha qkc qvc qhc hcel0
  have hxs := Lib.hid (And.intro x1 (And.intro x2 (And.intro x3 (And.intro x4 (And.intro x5 (And.intro x6 (And.intro x7 x8)))))))
  clear x1 x2 x3 x4 x5 x6 x7 x8
  replace hcel0 := Lib.hid hcel0
  replace hG := Lib.hid hG
  replace hpg := Lib.hid hpg
  replace hN := Lib.hid hN
  replace hlen := Lib.hid hlen
  obtain ⟨m, hm⟩ : ∃ m, m = n.del key := ⟨_, rfl⟩
  obtain ⟨od, hod⟩ : ∃ od, od = n.old key := ⟨_, rfl⟩
  obtain ⟨had, hhad⟩ : ∃ had, had = hasK key n.keys := ⟨_, rfl⟩
  have hold : Hid (had = false → od = s0) := Lib.hid (fun hf => by rw [hhad] at hf; rw [hod]; simp [BN.old, hf])
  rw [← hm, ← hod, ← hhad] at hDl
  rw [← hhad] at hse
  rw [← hod, ← hhad]
  simp only at hpu hlvs
  rw [← hm] at hpu hlvs
  clear hm hod
  replace hhad := Lib.hid hhad
  go_enter Try.func26, Try.ntmps26
  go_wp2_with fail
  refine hn.mono ?_
  rintro z w1 ⟨rfl, rfl⟩
  go_wp2_with fail
  refine hPa.out.mono ?_
  clear hPa hn
  rintro z w1 ⟨pa, pc, rfl, hrow, hb1⟩
  rw [hlen.out]
  obtain ⟨b', cap', ev, _, hc1, hc2, hc3, hc4, hc5, hat⟩ := hrow.at hpg.out
  injection ev with ev hle ev2
  clear hle
  subst ev ev2
  have k0 := hat 0 _ rfl
  have k1 := hat 1 _ rfl
  clear hat hc3 hc5 hrow
  rw [Nat.add_zero] at k0
  have c1' := keep hb1 c1
  obtain ⟨p, hp⟩ : ∃ p, p = N - 1 := ⟨_, rfl⟩
  rw [← hp] at k0 k1
  have hw1 : IntKind.i64.wrap ((N : Int) - 1) = (p : Int) := by rw [show ((N : Int) - 1) = (p : Int) by omega]; exact IntWalk.i64_in _ (by omega)
  have hp1 : p < N := by omega
  have hp2 : (p : Int) < (N : Int) := by omega
  have hqw := block_lt_of_cell hxs.out.1
  replace hp := Lib.hid hp
  replace hb1 := Lib.hid hb1
  go_upto_region 4 with fail
  go_cut [7] (fun v wx => v = .pointer (some ⟨e.blk, 1, none⟩) ∧ Below w.heap.size w wx)
  case first =>
    go_region_with (go_at_call 52; refine (hG.out _ hb1.out.drew).mono ?_; rintro z1 w2 ⟨rfl, hb2⟩; have hbw := hb1.out.drew.trans (hb2.mono hb1.out.drew.size); replace hbw := Lib.hid hbw; clear hb2)
    all_goals
      go_wp2_with fail
      go_meet
      exact ⟨rfl, hbw.out⟩
  case rest =>
    obtain ⟨rfl, hbw⟩ := hcut
    clear k0 k1 hw1 hp1 hp2 c1' hb1 hG
    obtain ⟨y1, y2, y3, y4, y5, y6, y7, y8⟩ := hxs.out
    have x1 := keep hbw y1
    have x2 := keep hbw y2
    have x3 := keep hbw y3
    have x4 := keep hbw y4
    have x5 := keep hbw y5
    have x6 := keep hbw y6
    have x7 := keep hbw y7
    have x8 := keep hbw y8
    clear y1 y2 y3 y4 y5 y6 y7 y8
    have hcl := Lib.hid (hDl.out wc hbw)
    clear hDl
    generalize hqe : e.blk = q at *
    replace hqe := Lib.hid hqe
    replace hbw := Lib.hid hbw
    go_wp2_with fail
    refine hcl.out.mono ?_
    clear hcl x1 x2 x3 x4 x5 x6 x7 x8
    rintro z w3 ⟨qka2, qva2, qha2, qkc2, qvc2, qhc2, rfl, hown, hb3⟩
    have hb3w := hbw.out.trans (hb3.mono hbw.out.size)
    have hq3 := Below.heap' hb3w hcel0.out
    obtain ⟨x1, x2, x3, x4, x5, x6, x7, x8⟩ := node_cells1 n qka qva qha qkc qvc qhc hq3
    have y := fun k => frozen_of_heap hq3 k
    obtain ⟨f1, f2, f3, f4, f5, f6, f7, f8⟩ := And.intro (y 1) (And.intro (y 2) (And.intro (y 3) (And.intro (y 4) (And.intro (y 5) (And.intro (y 6) (And.intro (y 7) (y 8)))))))
    have hqq := heap_lt hq3
    have c4' := keep hb3w c4
    have htb := Below.heap' hb3w hBh.out.2.blk
    have ft : w3.frozen? ⟨t, 4, none⟩ = false := frozen_of_heap htb _
    have hqt := heap_lt htb
    have hsz8 : IntKind.i64.wrap ((size : Int) - 1) = (size : Int) - 1 := IntWalk.i64_in _ (by omega)
    clear y htb hcel0 c0 c1 c2 c3 c4 c5 hq hqw
    have hfin : Hid (∃ ρ' D' d', BW w0 (World.setCell (World.setCell (World.setCell (World.setCell (World.setCell (World.setCell (World.setCell (World.setCell w3 ⟨q, 1, none⟩ (.bool m.leaf)) ⟨q, 2, none⟩ (.slice qka2 m.keys.length qkc2)) ⟨q, 3, none⟩ (.slice qva2 m.vals.length qvc2)) ⟨q, 4, none⟩ (.slice qha2 m.kids.length qhc2)) ⟨q, 5, none⟩ (.string m.high)) ⟨q, 6, none⟩ (.bool m.bnd)) ⟨q, 7, none⟩ (.int .i64 m.next.1)) ⟨q, 8, none⟩ (.int .u64 m.next.2)) ρ' P gens free D' ∧ Tr (World.setCell (World.setCell (World.setCell (World.setCell (World.setCell (World.setCell (World.setCell (World.setCell w3 ⟨q, 1, none⟩ (.bool m.leaf)) ⟨q, 2, none⟩ (.slice qka2 m.keys.length qkc2)) ⟨q, 3, none⟩ (.slice qva2 m.vals.length qvc2)) ⟨q, 4, none⟩ (.slice qha2 m.kids.length qhc2)) ⟨q, 5, none⟩ (.string m.high)) ⟨q, 6, none⟩ (.bool m.bnd)) ⟨q, 7, none⟩ (.int .i64 m.next.1)) ⟨q, 8, none⟩ (.int .u64 m.next.2)) ρ' P D' rt i t d' (Ls.set 0 (A ++ ((h1, h2), m) :: B)) r size ∧ RU [10 + 3 * i] w (World.setCell (World.setCell (World.setCell (World.setCell (World.setCell (World.setCell (World.setCell (World.setCell w3 ⟨q, 1, none⟩ (.bool m.leaf)) ⟨q, 2, none⟩ (.slice qka2 m.keys.length qkc2)) ⟨q, 3, none⟩ (.slice qva2 m.vals.length qvc2)) ⟨q, 4, none⟩ (.slice qha2 m.kids.length qhc2)) ⟨q, 5, none⟩ (.string m.high)) ⟨q, 6, none⟩ (.bool m.bnd)) ⟨q, 7, none⟩ (.int .i64 m.next.1)) ⟨q, 8, none⟩ (.int .u64 m.next.2)) ρ ρ' ∧ SameD i D D') := Lib.hid (by
      obtain ⟨eS, tow, thk, hct, hsl⟩ := hpu.out
      obtain ⟨hst, hup⟩ := node_stored1 (n2 := m) (qka2 := qka2) (qva2 := qva2) (qha2 := qha2) (qkc2 := qkc2) (qvc2 := qvc2) (qhc2 := qhc2) hq3
      rw [← hqe.out] at hst hup ⊢
      exact hBh.out.2.turn hBh.out.1 m qka2 qva2 qha2 qkc2 qvc2 qhc2 (by rw [hS'.out, eS]) hee.out.1 hee.out.2.1 hee.out.2.2 hb3w hown.at (hown.fresh.mono hbw.out.size) hup hst tow thk)
    cases had with
    | false =>
      go_wp2_with fail
      go_ret2
      obtain ⟨ρ', D', d', hB', hT', hU', hsd⟩ := hfin.out
      obtain ⟨eS, tow, thk, hct, hsl⟩ := hpu.out
      rw [hold.out trivial]
      exact ⟨rfl, ρ', D', hB', d', _, hT', hct, hsl, hU'.mono (by simp), hlvs.out.1, hsd, hlvs.out.2.1, hlvs.out.2.2.1 hhad.out.symm, hlvs.out.2.2.2⟩
    | true =>
      go_wp2_with fail
      go_ret2
      obtain ⟨ρ', D', d', hB', hT', hU', hsd⟩ := hfin.out
      obtain ⟨eS, tow, thk, hct, hsl⟩ := hpu.out
      obtain ⟨hB2, hT2, hU2⟩ := hT'.setSize hB' (size - 1)
      have he1 := hse.out trivial
      have he2 : ((size : Int) - 1) = ((size - 1 : Nat) : Int) := by omega
      rw [he2]
      exact ⟨rfl, ρ', D', hB2, d', _, hT2, hct, hsl, (hU'.mono (by simp)).trans (hU2.mono (by simp)), hlvs.out.1, hsd, hlvs.out.2.1, hlvs.out.2.2.2⟩
end
end Go.Proofs.Ytlhobbfncjjeaaa
