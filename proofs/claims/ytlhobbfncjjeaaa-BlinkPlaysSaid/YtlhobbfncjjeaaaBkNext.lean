/- The contract of a B-link tree's leaf, where nobody visits. The contract of a B-link tree's Get, where nobody visits. The contract of a B-link tree's Next, where nobody visits. -/
import Derived.Test.YtlhobbfncjjeaaaBkLook
import Derived.LoopTactic
import Derived.Deep.LoopGhost
namespace Go.Proofs.Ytlhobbfncjjeaaa
open Go.RowKit
theorem atK_mem {R : Lev} {k : Str} {x : Hd × BN} (h : atK R k = some x) : x ∈ R ∧ x.2.covers k = true := by
  obtain ⟨A, B, e, h1, _⟩ := atK_split h
  exact ⟨by rw [e]; simp, h1⟩
theorem mem_flat {Ls : List Lev} {j : Nat} {R : Lev} {x : Hd × BN} (h : Ls[j]? = some R) (hx : x ∈ R) : x ∈ Ls.flatten := List.mem_flatten.2 ⟨R, List.mem_of_getElem? h, hx⟩
/-- One level down. -/
theorem Tower.down {Ls : List Lev} (ht : Tower Ls) {j : Nat} {R : Lev} {k : Str} {x : Hd × BN} (hR : Ls[j + 1]? = some R) (hx : atK R k = some x) : ∃ S y, Ls[j]? = some S ∧ atK S k = some y ∧ x.2.kids[cutE k x.2.keys]? = some y.1 := by
  have hj : j < Ls.length := by have := (List.getElem?_eq_some_iff.1 hR).1; omega
  have hS : Ls[j]? = some Ls[j] := List.getElem?_eq_getElem hj
  have okR := ht.ok _ _ hR
  rw [show decide (j + 1 = 0) = false by simp] at okR
  obtain ⟨h, n⟩ := x
  obtain ⟨A, B, A', B', y, P, Q, _, _, e3, e4, _⟩ := over_find okR (ht.link _ _ _ hS hR) hx
  exact ⟨_, y, hS, e3, e4⟩
theorem Tower.atTop {Ls : List Lev} (ht : Tower Ls) {r : Hd} {n : BN} (h : Ls[Ls.length - 1]? = some [(r, n)]) (k : Str) : atK [(r, n)] k = some (r, n) := by
  obtain ⟨x, hx⟩ := seg_find (k := k) (ht.ok _ _ h).seg
  have := (atK_mem hx).1
  simp at this
  rw [this] at hx
  exact hx
section
variable {w0 w : World} {ρ : Nat → Nat} {P : Nat × Nat × Nat} {gens : List Int} {free : List Bool} {D : List ArD} {rt i t : Nat} {d : ArD} {Ls : List Lev} {r : Hd} {size : Nat}
/-- A node of the tree: what its functions ask. -/
theorem Tr.okn (h : Tr w ρ P D rt i t d Ls r size) {j : Nat} {R : Lev} {x : Hd × BN} (hR : Ls[j]? = some R) (hx : x ∈ R) : (∃ l, NodeOK l x.2) ∧ x.2.leaf = decide (j = 0) :=
  ⟨(h.tow.ok _ _ hR).node hx, (h.tow.ok _ _ hR).lf x hx⟩
set_option maxRecDepth 100000 in
theorem Tr.leaf (hB : BW w0 w ρ P gens free D) (h : Tr w ρ P D rt i t d Ls r size) (hsm : ∀ x, x ∈ Ls.flatten → x.2.keys.length ≤ 1000) (key : Str) {S : Lev} {y : Hd × BN} (hS : Ls[0]? = some S) (hy : atK S key = some y) :
    Calls Try.prog 43 #[.pointer (some ⟨t, 0, none⟩), .string key, .nilFunc] w (LookEnd w y.2) := by
  obtain ⟨n0, htop⟩ := h.top
  have hat0 := h.tow.atTop htop key
  obtain ⟨c0, c1, c2, c3, c4, c5, hq⟩ := h.cells
  have hl0 : 0 < Ls.length := (List.getElem?_eq_some_iff.1 hS).1
  have hLk := Lib.hid fun (x : Hd × BN) hx => (h.look hB (x := x) hx)
  have hok := Lib.hid fun (j : Nat) (R : Lev) (x : Hd × BN) hR hx => h.okn (j := j) (R := R) (x := x) hR hx
  have htw := Lib.hid h.tow
  replace hsm := Lib.hid hsm
  replace hS := Lib.hid hS
  replace hy := Lib.hid hy
  replace htop := Lib.hid htop
  replace hat0 := Lib.hid hat0
  clear h hB
  go_enter Try.func43, Try.ntmps43
  go_wp2_with fail
  go_loopg [7] Ls.length (fun gk v wr => ∃ (j : Nat) (R : Lev) (x : Hd × BN), gk = j + 1 ∧ v = .bool false ∧ Ls[j]? = some R ∧ atK R key = some x ∧ Below w.heap.size w wr ∧ wr.heap[w.heap.size]? = some (.cells #[.bool false, .slice none 0 0, .slice none 0 0, .slice none 0 0, .string ⟨#[]⟩, .bool false, .int .i64 0, .int .u64 0] 89) ∧ wr.heap[w.heap.size + 1]? = some (.cells #[.int .i64 x.1.1, .int .u64 x.1.2] 70))
  case atStart =>
    obtain ⟨hbx, hby⟩ := heap_two w (.cells #[.bool false, .slice none 0 0, .slice none 0 0, .slice none 0 0, .string ⟨#[]⟩, .bool false, .int .i64 0, .int .u64 0] 89) (.cells #[.int .i64 r.1, .int .u64 r.2] 70)
    exact ⟨Ls.length - 1, _, _, by omega, rfl, htop.out, hat0.out, below_two _ _ _, hbx, hby⟩
  case round =>
    obtain ⟨j, R, x, rfl, rfl, hR, hx, hB, hbz, hbh⟩ := hrel
    obtain ⟨hxm, hxc⟩ := atK_mem hx
    obtain ⟨⟨lo, hno⟩, hlf⟩ := hok.out j R x hR hxm
    have hks := hsm.out x (mem_flat hR hxm)
    obtain ⟨qka, qva, qha, qkc, qvc, qhc, hnat, hl⟩ := hLk.out x (mem_flat hR hxm)
    replace hl := hl wr hB
    have hdn : Hid (∀ i, j = i + 1 → ∃ S z, Ls[i]? = some S ∧ atK S key = some z ∧ x.2.kids[cutE key x.2.keys]? = some z.1) := Lib.hid fun i hi => by
      subst hi
      exact htw.out.down hR hx
    have hyx : Hid (j = 0 → y.2 = x.2) := Lib.hid fun h0 => by
      subst h0
      have := hS.out
      rw [hR] at this
      injection this with this
      subst this
      have := hy.out
      rw [hx] at this
      injection this with this
      rw [this]
    have hbhq := heap_lt hbh
    have k0 : wr.cell? ⟨w.heap.size + 1, 0, none⟩ = some (.int .i64 x.1.1) := by rw [cell_of_heap hbh]; rfl
    have k1 : wr.cell? ⟨w.heap.size + 1, 1, none⟩ = some (.int .u64 x.1.2) := by rw [cell_of_heap hbh]; rfl
    obtain ⟨⟨h1, h2⟩, n⟩ := x
    simp only at hl hno hlf hks hdn hyx hxc k0 k1 hbh hnat
    replace hl := Lib.hid hl
    replace hno := Lib.hid hno
    replace hB := Lib.hid hB
    replace hbz := Lib.hid hbz
    replace hbh := Lib.hid hbh
    replace hxc := Lib.hid hxc
    replace hlf := Lib.hid hlf
    clear hR hx hxm
    go_wp2_with fail
    refine hl.out.mono ?_
    clear hl
    rintro e w2 ⟨rfl, hb2⟩
    have hB2 := hB.out.trans (hb2.mono hB.out.size)
    replace hbz := Below.heap' hb2 hbz.out
    replace hbh := Below.heap' hb2 hbh.out
    have hKd := Lib.hid fun (z : Hd) (hlf0 : n.leaf = false) (hz : n.kids[cutE key n.keys]? = some z) W hW => nKid_ok n qka qva qha qkc qvc qhc key z W hno.out (hnat.below (w' := W) n qka qva qha qkc qvc qhc hW) hks hlf0 hxc.out hz
    have hCv := Lib.hid fun W => nCovers_any n.leaf qka n.keys.length qkc qva n.vals.length qvc qha n.kids.length qhc n.high n.bnd n.next.1 n.next.2 key W
    rw [show (!n.bnd || slt key n.high) = true from hxc.out] at hCv
    have hq2 := heap_lt hbh
    have hfin : Hid (j = 0 → ∀ W W', Below w2.heap.size w2 W → Upd [w.heap.size] W W' → LookEnd w y.2 (.returned (.tuple #[.agg #[.bool n.leaf, .slice qka n.keys.length qkc, .slice qva n.vals.length qvc, .slice qha n.kids.length qhc, .string n.high, .bool n.bnd, .int .i64 n.next.1, .int .u64 n.next.2], .bool true])) W') := Lib.hid fun h0 W W' hW hu => by
      rw [hyx.out h0]
      exact ⟨qka, qva, qha, qkc, qvc, qhc, rfl, hnat, (hB2.trans (hW.mono hB2.size)).trans (hu.below (Nat.le_trans hB2.size hW.size) (by simp))⟩
    replace hnat := Lib.hid hnat
    replace hB2 := Lib.hid hB2
    replace hbz := Lib.hid hbz
    replace hbh := Lib.hid hbh
    obtain ⟨lf, K, V, H, hi, bd, nx⟩ := n
    simp only at hKd hCv hfin hks hlf hdn ⊢
    clear hno hB hxc hb2 k0 k1 hyx
    go_wp2_with fail
    have hA : Below w2.heap.size w2 (w2.alloc (.cells #[.bool lf, .slice qka K.length qkc, .slice qva V.length qvc, .slice qha H.length qhc, .string hi, .bool bd, .int .i64 nx.1, .int .u64 nx.2] 89)) := (Below.refl _ _).alloc (Nat.le_refl _) _
    have hT := heap_alloc_new w2 (.cells #[.bool lf, .slice qka K.length qkc, .slice qva V.length qvc, .slice qha H.length qhc, .string hi, .bool bd, .int .i64 nx.1, .int .u64 nx.2] 89)
    generalize w2.alloc (.cells #[.bool lf, .slice qka K.length qkc, .slice qva V.length qvc, .slice qha H.length qhc, .string hi, .bool bd, .int .i64 nx.1, .int .u64 nx.2] 89) = W2 at *
    refine (hCv.out W2).mono ?_
    clear hCv
    rintro e w3 ⟨rfl, hb3⟩
    have hB3 : Below w2.heap.size w2 w3 := hA.trans (hb3.mono hA.size)
    replace hT := Below.heap' hb3 hT
    have hbz3 := Below.heap' hB3 hbz.out
    have hbh3 := Below.heap' hB3 hbh.out
    have hBw := hB2.out.trans (hB3.mono hB2.out.size)
    clear hA hb3
    obtain ⟨c0, c1, c2, c3, c4, c5, c6, c7⟩ := node_cells _ _ _ _ _ _ _ _ _ _ _ _ _ _ hT
    have hqT := heap_lt hT
    replace hT := Lib.hid hT
    replace hbz3 := Lib.hid hbz3
    replace hbh3 := Lib.hid hbh3
    replace hB3 := Lib.hid hB3
    replace hBw := Lib.hid hBw
    rcases j with _ | j
    · have e0 : lf = true := hlf.out
      subst e0
      obtain ⟨d0, d1, d2, d3, d4, d5, d6, d7⟩ := node_cells false none 0 0 none 0 0 none 0 0 ⟨#[]⟩ false 0 0 hbz3.out
      have y := fun k => frozen_of_heap hbz3.out k
      obtain ⟨f0, f1, f2, f3, f4, f5, f6, f7⟩ := And.intro (y 0) (And.intro (y 1) (And.intro (y 2) (And.intro (y 3) (And.intro (y 4) (And.intro (y 5) (And.intro (y 6) (y 7)))))))
      have hqz := heap_lt hbz3.out
      clear y
      go_wp2_with fail
      refine bodyPost_ret (v := .tuple #[.agg #[.bool true, .slice qka K.length qkc, .slice qva V.length qvc, .slice qha H.length qhc, .string hi, .bool bd, .int .i64 nx.1, .int .u64 nx.2], .bool true]) (by simp [results, Try.results43, go_sem, d0, d1, d2, d3, d4, d5, d6, d7]) rfl ?_
      refine hfin.out trivial _ _ hB3.out ?_
      iterate 8 refine Upd.setCell ?_ (by simp) _
      exact Upd.refl _ _
    · have e0 : lf = false := by simpa using hlf.out
      subst e0
      obtain ⟨S, z, hS1, hz1, hz2⟩ := hdn.out j rfl
      replace hS1 := Lib.hid hS1
      replace hz1 := Lib.hid hz1
      go_wp2_with fail
      refine (hKd.out z.1 trivial hz2 w3 hBw.out).mono ?_
      clear hKd
      rintro e w4 ⟨rfl, hb4⟩
      have hbz4 := Below.heap' hb4 hbz3.out
      have hbh4 := Below.heap' hb4 hbh3.out
      have hBw4 := hBw.out.trans (hb4.mono hBw.out.size)
      have k0 : w4.cell? ⟨w.heap.size + 1, 0, none⟩ = some (.int .i64 h1) := by rw [cell_of_heap hbh4]; rfl
      have k1 : w4.cell? ⟨w.heap.size + 1, 1, none⟩ = some (.int .u64 h2) := by rw [cell_of_heap hbh4]; rfl
      have f0 : w4.frozen? ⟨w.heap.size + 1, 0, none⟩ = false := frozen_of_heap hbh4 _
      have f1 : w4.frozen? ⟨w.heap.size + 1, 1, none⟩ = false := frozen_of_heap hbh4 _
      have hq4 := heap_lt hbh4
      clear c0 c1 c2 c3 c4 c5 c6 c7 hqT hb4
      replace hbz4 := Lib.hid hbz4
      replace hbh4 := Lib.hid hbh4
      replace hBw4 := Lib.hid hBw4
      go_wp2_with fail
      go_roundg (j + 1)
      case rel =>
        refine ⟨j, S, z, rfl, rfl, hS1.out, hz1.out, (hBw4.out.setCell (p := ⟨w.heap.size + 1, 0, none⟩) (by simp) _).setCell (p := ⟨w.heap.size + 1, 1, none⟩) (by simp) _, ?_, ?_⟩
        · rw [heap_set_other _ _ (by simp), heap_set_other _ _ (by simp)]
          exact hbz4.out
        · rw [heap_self, heap_self, hbh4.out]
          rfl
      case measure => omega
end
end Go.Proofs.Ytlhobbfncjjeaaa
namespace Go.Proofs.Ytlhobbfncjjeaaa
open Go.RowKit
def content (Ls : List Lev) : Cont := cont (Ls.getD 0 [])
theorem content_of {Ls : List Lev} {S : Lev} (h : Ls[0]? = some S) : content Ls = cont S := by unfold content; rw [List.getD_eq_getElem?_getD, h]; rfl
/-- What the leaf that covers a key says of it. -/
theorem Tower.get {Ls : List Lev} (ht : Tower Ls) {S : Lev} {key : Str} {y : Hd × BN} (hS : Ls[0]? = some S) (hy : atK S key = some y) :
    (∃ l, NodeOK l y.2) ∧ y.2.leaf = true ∧ cget (content Ls) key = if hasK key y.2.keys then some (y.2.old key) else none := by
  have hok := ht.ok _ _ hS
  obtain ⟨hm, hc⟩ := atK_mem hy
  obtain ⟨l, hl⟩ := hok.node hm
  have hlf := hok.lf y hm
  refine ⟨⟨l, hl⟩, hlf, ?_⟩
  obtain ⟨A, B, e, _, hA⟩ := atK_split hy
  have hseg := hok.seg
  rw [e] at hseg
  obtain ⟨s1, s2⟩ := cont_sides hseg hA hc
  rw [content_of hS, e, cont_append, cont_cons, ← List.append_assoc, cget_mid s1 s2]
  exact get_pairs hl hlf
section
variable {w0 w : World} {ρ : Nat → Nat} {P : Nat × Nat × Nat} {gens : List Int} {free : List Bool} {D : List ArD} {rt i t : Nat} {d : ArD} {Ls : List Lev} {r : Hd} {size : Nat}
theorem Tr.leaf0 (h : Tr w ρ P D rt i t d Ls r size) (key : Str) : ∃ S y, Ls[0]? = some S ∧ atK S key = some y := by
  obtain ⟨n0, htop⟩ := h.top
  have hl := (List.getElem?_eq_some_iff.1 htop).1
  have hS : Ls[0]? = some Ls[0] := List.getElem?_eq_getElem (by omega)
  obtain ⟨y, hy⟩ := seg_find (k := key) (h.tow.ok _ _ hS).seg
  exact ⟨_, y, hS, hy⟩
set_option maxRecDepth 100000 in
theorem Tr.get (hB : BW w0 w ρ P gens free D) (h : Tr w ρ P D rt i t d Ls r size) (hsm : ∀ x, x ∈ Ls.flatten → x.2.keys.length ≤ 1000) (key : Str) :
    Calls Try.prog 14 #[.pointer (some ⟨t, 0, none⟩), .string key, .nilFunc] w fun e w' => e = .returned (.tuple #[.string ((cget (content Ls) key).getD s0), .bool (cget (content Ls) key).isSome, .bool false]) ∧ Below w.heap.size w w' := by
  obtain ⟨S, ⟨hh, n⟩, hS, hy⟩ := h.leaf0 key
  obtain ⟨⟨lo, hno⟩, hlf, hg⟩ := h.tow.get hS hy
  have hks := hsm _ (mem_flat hS (atK_mem hy).1)
  have hLf := h.leaf hB hsm key hS hy
  obtain ⟨c0, c1, c2, c3, c4, c5, hq⟩ := h.cells
  have hn := none_ok c1
  have hvl := (hno.lf hlf).1
  simp only at hks hg hLf hno hlf hvl
  have hold : Hid (hasK key n.keys = true → n.vals[cut key n.keys]? = some (n.old key)) := Lib.hid fun hr => by
    have hlt := (List.getElem?_eq_some_iff.1 (hasK_iff.1 hr)).1
    unfold BN.old
    rw [if_pos hr, List.getD_eq_getElem?_getD, List.getElem?_eq_getElem (by omega)]
    rfl
  rw [hg]
  obtain ⟨od, hod⟩ : ∃ od, od = n.old key := ⟨_, rfl⟩
  rw [← hod] at hold ⊢
  clear hod
  replace hvl := Lib.hid hvl
  replace hLf := Lib.hid hLf
  have hcl := cut_le key n.keys
  clear h hB hsm hS hy hg hno hlf
  go_enter Try.func14, Try.ntmps14
  go_wp2_with fail
  refine hn.mono ?_
  rintro e w1 ⟨rfl, rfl⟩
  go_wp2_with fail
  refine hLf.out.mono ?_
  clear hLf hn
  rintro e w2 ⟨qka, qva, qha, qkc, qvc, qhc, rfl, hnat, hb2⟩
  have hF := Lib.hid fun W (hW : Below w.heap.size w W) => nFind_any n.leaf qka n.keys.length qkc qva n.vals.length qvc qha n.kids.length qhc n.high n.bnd n.next.1 n.next.2 n.keys key W (hnat.1.below hW) rfl
  have hV := Lib.hid fun (hr : hasK key n.keys = true) => hnat.2.1.str (by have := hvl.out; have := (List.getElem?_eq_some_iff.1 (hasK_iff.1 hr)).1; omega)
  clear hnat
  obtain ⟨lf, K, V, H, hi, bd, nx⟩ := n
  simp only at hF hV hold hks hvl hcl ⊢
  have hA : Below w2.heap.size w2 (w2.alloc (.cells #[.bool lf, .slice qka K.length qkc, .slice qva V.length qvc, .slice qha H.length qhc, .string hi, .bool bd, .int .i64 nx.1, .int .u64 nx.2] 89)) := (Below.refl _ _).alloc (Nat.le_refl _) _
  have hT := heap_alloc_new w2 (.cells #[.bool lf, .slice qka K.length qkc, .slice qva V.length qvc, .slice qha H.length qhc, .string hi, .bool bd, .int .i64 nx.1, .int .u64 nx.2] 89)
  obtain ⟨c0, c1, c2, c3, c4, c5, c6, c7⟩ := node_cells _ _ _ _ _ _ _ _ _ _ _ _ _ _ hT
  replace hb2 := Lib.hid hb2
  replace hA := Lib.hid hA
  replace hT := Lib.hid hT
  go_wp2_with fail
  refine (hF.out _ (hb2.out.trans (hA.out.mono hb2.out.size))).mono ?_
  clear hF
  rintro e w3 ⟨rfl, hb3⟩
  have hT3 := Below.heap' hb3 hT.out
  have hB3 := (hb2.out.trans (hA.out.mono hb2.out.size)).trans (hb3.mono (hb2.out.trans (hA.out.mono hb2.out.size)).size)
  clear c0 c1 c2 c3 c4 c5 c6 c7 hb3 hb2 hA hT
  obtain ⟨c0, c1, c2, c3, c4, c5, c6, c7⟩ := node_cells _ _ _ _ _ _ _ _ _ _ _ _ _ _ hT3
  have hq3 := heap_lt hT3
  replace hT3 := Lib.hid hT3
  cases hr : hasK key K with
  | true =>
    obtain ⟨b, o, rfl, hbw, hvc, hvc63, hvat⟩ := hV.out hr
    have hlt : cut key K < V.length := (List.getElem?_eq_some_iff.1 (hold.out hr)).1
    have g1 := keep hB3 (hvat _ _ (hold.out hr))
    clear hvat hcl
    replace hB3 := Lib.hid hB3
    generalize cut key K = ix at *
    go_wp2_with fail
    go_ret3
    exact ⟨by simp, hB3.out⟩
  | false =>
    replace hB3 := Lib.hid hB3
    clear hV
    go_wp2_with fail
    go_ret3
    exact ⟨by simp; rfl, hB3.out⟩
end
end Go.Proofs.Ytlhobbfncjjeaaa
namespace Go.Proofs.Ytlhobbfncjjeaaa
open Go.RowKit
def place (key : Str) (after : Bool) (K : List Str) : Nat := if after then cutE key K else cut key K
/-- A node's right neighbour. -/
theorem seg_next {A B : Lev} {x : Hd × BN} {lo : Str} {nxt : Hd} (h : Seg lo (A ++ x :: B) nxt none) : (x.2.bnd = true → ∃ y B', B = y :: B' ∧ x.2.next = y.1) ∧ (x.2.bnd = false → B = []) := by
  obtain ⟨m, _, h2⟩ := seg_append.1 h
  obtain ⟨hh, n⟩ := x
  obtain ⟨_, h4, h5⟩ := h2
  refine ⟨fun hb => ?_, fun hb => ?_⟩
  · have hb' : n.bnd = true := hb
    rw [if_pos hb'] at h5
    cases B with
    | nil => simp [Seg] at h5
    | cons y B' => exact ⟨y, B', rfl, h4⟩
  · have hb' : ¬ n.bnd = true := by show ¬ n.bnd = true; simp at hb; simp [hb]
    rw [if_neg hb'] at h5
    exact h5.1
/-- A step of going on to the right. -/
theorem next_step {A B : Lev} {x : Hd × BN} {key : Str} {after : Bool} (hok : LevOK true (A ++ x :: B)) : (∃ l, NodeOK l x.2) ∧ x.2.leaf = true ∧
    cnext (cont (x :: B)) key after = (match x.2.pairs[place key after x.2.keys]? with | some p => some p | none => cnext (cont B) key after) := by
  obtain ⟨l, hl⟩ := hok.node (x := x) (by simp)
  have hlf := hok.lf x (by simp)
  refine ⟨⟨l, hl⟩, hlf, ?_⟩
  have := next_pairs (k := key) hl hlf after
  unfold place
  rw [← this, cont_cons]
  unfold cnext
  rw [List.find?_append]
  cases List.find? (fun p => if after = true then slt key p.1 else sle key p.1) x.2.pairs <;> rfl
theorem pair_at {K V : List Str} {i : Nat} (hv : V.length = K.length) (hi : i < K.length) : ∃ k v, K[i]? = some k ∧ V[i]? = some v ∧ (K.zip V)[i]? = some (k, v) := by
  refine ⟨K[i], V[i], List.getElem?_eq_getElem hi, List.getElem?_eq_getElem (by omega), ?_⟩
  rw [List.getElem?_zip_eq_some]
  exact ⟨List.getElem?_eq_getElem hi, List.getElem?_eq_getElem (by omega)⟩
def nextV (o : Option (Str × Str)) : Value := .tuple #[.string (match o with | some p => p.1 | none => s0), .string (match o with | some p => p.2 | none => s0), .bool o.isSome, .bool false]
section
variable {w0 w : World} {ρ : Nat → Nat} {P : Nat × Nat × Nat} {gens : List Int} {free : List Bool} {D : List ArD} {rt i t : Nat} {d : ArD} {Ls : List Lev} {r : Hd} {size : Nat}
theorem Tower.nextStart {Ls : List Lev} (ht : Tower Ls) {S : Lev} {key : Str} {y : Hd × BN} (hS : Ls[0]? = some S) (hy : atK S key = some y) (after : Bool) :
    ∃ A B, S = A ++ y :: B ∧ cnext (content Ls) key after = cnext (cont (y :: B)) key after := by
  have hok := ht.ok _ _ hS
  obtain ⟨A, B, e, hc, hA⟩ := atK_split hy
  have hseg := hok.seg
  rw [e] at hseg
  obtain ⟨s1, _⟩ := cont_sides hseg hA hc
  exact ⟨A, B, e, by rw [content_of hS, e, cont_append, cnext_low s1]⟩
set_option maxRecDepth 100000 in
set_option maxHeartbeats 1000000 in
theorem Tr.next (hB : BW w0 w ρ P gens free D) (h : Tr w ρ P D rt i t d Ls r size) (hsm : ∀ x, x ∈ Ls.flatten → x.2.keys.length ≤ 1000) (key : Str) (after : Bool) :
    Calls Try.prog 17 #[.pointer (some ⟨t, 0, none⟩), .string key, .bool after, .nilFunc] w fun e w' => e = .returned (nextV (cnext (content Ls) key after)) ∧ Below w.heap.size w w' := by
  obtain ⟨S, y, hS, hy⟩ := h.leaf0 key
  have hLf := h.leaf hB hsm key hS hy
  obtain ⟨A, B, eS, eN⟩ := h.tow.nextStart hS hy after
  obtain ⟨c0, c1, c2, c3, c4, c5, hq⟩ := h.cells
  have hn := none_ok c1
  have hokS := h.tow.ok _ _ hS
  have hLk := Lib.hid fun (x : Hd × BN) hx => h.look hB (x := x) (mem_flat hS hx)
  have hks := Lib.hid fun (x : Hd × BN) hx => hsm x (mem_flat hS hx)
  rw [eN]
  obtain ⟨res, hres⟩ : ∃ res, res = cnext (cont (y :: B)) key after := ⟨_, rfl⟩
  rw [← hres]
  replace hokS := Lib.hid hokS
  replace hres := Lib.hid hres
  replace eS := Lib.hid eS
  replace hLf := Lib.hid hLf
  clear h hB hsm hS hy eN
  go_enter Try.func17, Try.ntmps17
  go_wp2_with fail
  refine hn.mono ?_
  rintro e w1 ⟨rfl, rfl⟩
  go_wp2_with fail
  refine hLf.out.mono ?_
  clear hLf hn
  rintro e w2 ⟨qka, qva, qha, qkc, qvc, qhc, rfl, hnat, hb2⟩
  have hq2 := hb2.size
  have hT0 := heap_alloc_new w2 (.cells #[.bool y.2.leaf, .slice qka y.2.keys.length qkc, .slice qva y.2.vals.length qvc, .slice qha y.2.kids.length qhc, .string y.2.high, .bool y.2.bnd, .int .i64 y.2.next.1, .int .u64 y.2.next.2] 89)
  have hBT : Below w.heap.size w (w2.alloc (.cells #[.bool y.2.leaf, .slice qka y.2.keys.length qkc, .slice qva y.2.vals.length qvc, .slice qha y.2.kids.length qhc, .string y.2.high, .bool y.2.bnd, .int .i64 y.2.next.1, .int .u64 y.2.next.2] 89)) := hb2.trans (((Below.refl _ _).alloc (Nat.le_refl _) _).mono hb2.size)
  replace hBT := Lib.hid hBT
  replace hT0 := Lib.hid hT0
  replace hnat := Lib.hid hnat
  go_wp2_with fail
  go_loopg [13] (B.length + 1) (fun gk v wr => ∃ (A : Lev) (x : Hd × BN) (B : Lev), ∃ qka qva qha qkc qvc qhc, gk = B.length + 1 ∧ v = .bool true ∧ S = A ++ x :: B ∧ res = cnext (cont (x :: B)) key after ∧ NodeAt w x.2 qka qva qha qkc qvc qhc ∧ wr.heap[w2.heap.size]? = some (.cells #[.bool x.2.leaf, .slice qka x.2.keys.length qkc, .slice qva x.2.vals.length qvc, .slice qha x.2.kids.length qhc, .string x.2.high, .bool x.2.bnd, .int .i64 x.2.next.1, .int .u64 x.2.next.2] 89) ∧ Below w.heap.size w wr)
  case atStart => exact ⟨A, y, B, qka, qva, qha, qkc, qvc, qhc, rfl, rfl, eS.out, hres.out, hnat.out, hT0.out, hBT.out⟩
  case round =>
    clear hT0 hBT hnat
    obtain ⟨A, x, B, qka3, qva3, qha3, qkc3, qvc3, qhc3, rfl, rfl, eS1, hres1, hnat, hT, hBw⟩ := hrel
    have hlev : LevOK true (A ++ x :: B) := by rw [← eS1]; exact hokS.out
    obtain ⟨⟨lo, hno⟩, hlf, hstep⟩ := next_step (key := key) (after := after) hlev
    rw [← hres1] at hstep
    have hxS : x ∈ S := by rw [eS1]; simp
    have hkx := hks.out x hxS
    have hnx := seg_next hlev.seg
    have hvl := (hno.lf hlf).1
    obtain ⟨⟨h1, h2⟩, n⟩ := x
    simp only at hno hlf hstep hkx hnx hvl hnat hT
    have hpl : place key after n.keys = cut key n.keys + (if (hasK key n.keys && after) = true then 1 else 0) := by
      unfold place
      cases after
      · simp
      · simp [cutE_eq hno.rise]
    have hple : place key after n.keys ≤ n.keys.length := by
      unfold place
      split
      · exact cutE_le _ _
      · exact cut_le _ _
    have hF := Lib.hid fun W (hW : Below w.heap.size w W) => nFind_any n.leaf qka3 n.keys.length qkc3 qva3 n.vals.length qvc3 qha3 n.kids.length qhc3 n.high n.bnd n.next.1 n.next.2 n.keys key W (hnat.1.below hW) rfl
    unfold BN.pairs at hstep
    clear hno
    obtain ⟨lf, K, V, H, hi, bd, nx⟩ := n
    simp only at hF hlf hstep hkx hnx hvl hnat hT hpl hple
    subst hlf
    obtain ⟨p, hp⟩ : ∃ p, p = place key after K := ⟨_, rfl⟩
    rw [← hp] at hstep hpl hple
    obtain ⟨c0, c1, c2, c3, c4, c5, c6, c7⟩ := node_cells _ _ _ _ _ _ _ _ _ _ _ _ _ _ hT
    have hqT := heap_lt hT
    have hcl := cut_le key K
    replace hvl := Lib.hid hvl
    replace hnat := Lib.hid hnat
    replace hT := Lib.hid hT
    replace hBw := Lib.hid hBw
    replace hstep := Lib.hid hstep
    replace hnx := Lib.hid hnx
    replace eS1 := Lib.hid eS1
    replace hres1 := Lib.hid hres1
    replace hpl := Lib.hid hpl
    clear hp hlev
    generalize hasK key K = hs at *
    go_upto_region 6 with (go_at_call 44; refine (hF.out _ hBw.out).mono ?_; rintro e w3 ⟨rfl, hb3⟩)
    have hT3 := Below.heap' hb3 hT.out
    have hBw3 := hBw.out.trans (hb3.mono hBw.out.size)
    clear hF hT hBw hb3 c0 c1 c2 c3 c4 c5 c6 c7 hqT
    obtain ⟨c0, c1, c2, c3, c4, c5, c6, c7⟩ := node_cells _ _ _ _ _ _ _ _ _ _ _ _ _ _ hT3
    have hqT := heap_lt hT3
    replace hT3 := Lib.hid hT3
    replace hBw3 := Lib.hid hBw3
    have hw1 : IntKind.i64.wrap ((cut key K : Nat) + 1 : Int) = (cut key K : Nat) + 1 := IntWalk.i64_in _ (by omega)
    have he : Hid ((if (hs && after) = true then ((cut key K : Nat) : Int) + 1 else ((cut key K : Nat) : Int)) = (p : Int)) := Lib.hid (by
      have := hpl.out
      split
      · rename_i h
        rw [if_pos h] at this; omega
      · rename_i h
        rw [if_neg h] at this; omega)
    clear hpl hcl
    generalize cut key K = cx at *
    cases hs <;> cases after
    all_goals
      have e1 := he.out
      simp only [Bool.and_self, Bool.and_false, Bool.and_true, Bool.false_eq_true, if_true, if_false] at e1
      rcases Nat.lt_or_ge p K.length with hlt | hge
      · obtain ⟨k, v, hk1, hv1, hz1⟩ := pair_at (i := p) hvl.out hlt
        obtain ⟨b, o, rfl, _, hkc, hkc63, hkat⟩ := hnat.out.1.str (by show 0 < K.length; omega)
        obtain ⟨b', o', rfl, _, hvc, hvc63, hvat⟩ := hnat.out.2.1.str (by show 0 < V.length; have := hvl.out; omega)
        have g1 := keep hBw3.out (hkat _ _ hk1)
        have g2 := keep hBw3.out (hvat _ _ hv1)
        have hpv : p < V.length := by have := hvl.out; omega
        have hres : res = some (k, v) := by rw [hstep.out, hz1]
        clear hkat hvat hk1 hv1 hz1
        replace hres := Lib.hid hres
        go_wp2_with fail
        go_quiet (fail)
        go_wp2_with fail
        refine bodyPost_ret (v := .tuple #[.string k, .string v, .bool true, .bool false]) (by simp [results, Try.results17, go_sem]) rfl ⟨by rw [hres.out]; rfl, below_drewN hBw3.out _⟩
      · have hz1 : (K.zip V)[p]? = none := by
          rw [List.getElem?_eq_none]
          rw [List.length_zip]
          omega
        have hres := hstep.out
        rw [hz1] at hres
        simp only at hres
        obtain rfl : p = K.length := by omega
        cases bd with
        | false =>
          have hB0 := hnx.out.2 rfl
          have hrn : res = none := by rw [hres, hB0]; rfl
          replace hrn := Lib.hid hrn
          go_wp2_with fail
          refine bodyPost_ret (v := .tuple #[.string ⟨#[]⟩, .string ⟨#[]⟩, .bool false, .bool false]) (by simp [results, Try.results17, go_sem]) rfl ⟨by first | rfl | (rw [hrn.out]; rfl), hBw3.out⟩
        | true =>
          obtain ⟨z, B', hB', hnz⟩ := hnx.out.1 rfl
          replace hres := Lib.hid hres
          subst hB'
          obtain ⟨hz, nz⟩ := z
          simp only at hnz
          subst hnz
          obtain ⟨qka4, qva4, qha4, qkc4, qvc4, qhc4, hnat4, hl4⟩ := hLk.out (nx, nz) (by rw [eS1.out]; simp)
          have hl5 := Lib.hid (hl4 w3 hBw3.out)
          simp only at hnat4 hl5
          replace hnat4 := Lib.hid hnat4
          clear hl4
          go_wp2_with fail
          refine hl5.out.mono ?_
          clear hl5
          rintro e w5 ⟨rfl, hb5⟩
          have hT5 := Below.heap' hb5 hT3.out
          have hBw5 := hBw3.out.trans (hb5.mono hBw3.out.size)
          have y := fun k => frozen_of_heap hT5 k
          obtain ⟨f0, f1, f2, f3, f4, f5, f6, f7⟩ := And.intro (y 0) (And.intro (y 1) (And.intro (y 2) (And.intro (y 3) (And.intro (y 4) (And.intro (y 5) (And.intro (y 6) (y 7)))))))
          clear c0 c1 c2 c3 c4 c5 c6 c7 y hb5
          obtain ⟨c0, c1, c2, c3, c4, c5, c6, c7⟩ := node_cells _ _ _ _ _ _ _ _ _ _ _ _ _ _ hT5
          have hqT5 := heap_lt hT5
          replace hT5 := Lib.hid hT5
          replace hBw5 := Lib.hid hBw5
          go_wp2_with fail
          go_roundg (B'.length + 1)
          case rel =>
            obtain ⟨hst, hus⟩ := node_stored (n2 := nz) (qka2 := qka4) (qva2 := qva4) (qha2 := qha4) (qkc2 := qkc4) (qvc2 := qvc4) (qhc2 := qhc4) hT5.out
            exact ⟨A ++ [((h1, h2), ⟨true, K, V, H, hi, true, nx⟩)], (nx, nz), B', qka4, qva4, qha4, qkc4, qvc4, qhc4, rfl, rfl, by rw [eS1.out]; simp, hres.out, hnat4.out, hst, hBw5.out.trans (hus.below hBw5.out.size (by simp; exact hq2))⟩
          case measure => simp
end
end Go.Proofs.Ytlhobbfncjjeaaa
