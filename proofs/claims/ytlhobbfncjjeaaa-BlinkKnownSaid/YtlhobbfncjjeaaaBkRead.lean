/- Blocks of a law's own, written. A reader of a B-link tree whose visits may write: the contracts of look, leaf, Get and Next for any visit function that is as 'VisW' says. -/
import Derived.Test.YtlhobbfncjjeaaaBkReadL
import Derived.Test.YtlhobbfncjjeaaaBkLook
import Derived.Test.YtlhobbfncjjeaaaBkNext
import Derived.RegionCalls
import Derived.Shelf.Abstract
import Derived.Laws.BitsLemmas
namespace Go.Proofs.Ytlhobbfncjjeaaa
open Go.RowKit
section
variable {w0 w w' : World} {ρ ρ' : Nat → Nat} {P : Nat × Nat × Nat} {gens : List Int} {free : List Bool} {D : List ArD} {rs : List Nat} {rt i t : Nat} {d : ArD} {Ls : List Lev} {r : Hd} {size : Nat}
theorem Ars.ru0 (h : Ars w ρ (some P) gens free D) (hu : RU rs w w' ρ ρ') (hr : ∀ r, r ∈ rs → r = 0 ∨ (4 ≤ r ∧ r ≤ 9)) : Ars w' ρ' (some P) gens free D := by
  have hn : ∀ r, (1 ≤ r ∧ r ≤ 3) ∨ 10 ≤ r → r ∉ rs := fun r h1 h2 => by have := hr r h2; omega
  refine ⟨h.pool.ru hu (hn _ (by omega)) (hn _ (by omega)) (hn _ (by omega)), fun i d hd => ?_⟩
  have := h.ar i d hd
  exact this.ru hu (hn _ (by omega)) (hn _ (by omega)) (hn _ (by omega)) (fun e he => (this.th e he).2)
/-- Blocks of the law's own are written. -/
theorem BW.turn0 (h : BW w0 w ρ P gens free D) (hu : RU rs w w' ρ ρ') (hb : Below w0.heap.size w0 w') (hr : ∀ r, r ∈ rs → r = 0 ∨ (4 ≤ r ∧ r ≤ 9)) : BW w0 w' ρ' P gens free D :=
  ⟨⟨hb, fun k hk => by rw [hu.role k (Nat.lt_of_lt_of_le hk h.ro.bel.size)]; exact h.ro.old k hk, hu.far⟩, h.ars.ru0 hu hr⟩
theorem own_below {S : List Nat} (hb : Below w0.heap.size w0 w) (hu : Upd S w w') (hS : ∀ k, k ∈ S → k < w.heap.size → w0.heap.size ≤ k) : Below w0.heap.size w0 w' :=
  hb.trans ⟨hu.os, hu.tape, hu.output, hu.size, fun k hk => hu.block k (Nat.lt_of_lt_of_le hk hb.size) (fun hh => by have := hS k hh (Nat.lt_of_lt_of_le hk hb.size); omega)⟩
end
/-- Role c is taken from whoever has it. -/
def reC (c : Nat) (ρ : Nat → Nat) (k : Nat) : Nat := if ρ k = c then 0 else ρ k
theorem reC_of {c : Nat} {ρ : Nat → Nat} {k m : Nat} (h : ρ k = m) (hm : m ≠ c) : reC c ρ k = m := by unfold reC; rw [h, if_neg hm]
theorem reC_ne {c : Nat} (h0 : c ≠ 0) {ρ : Nat → Nat} {k : Nat} : reC c ρ k ≠ c := by unfold reC; split <;> omega
theorem FR.reC {α : Type} {c : Nat} {ρ : Nat → Nat} {a : Option Addr} {L : List α} (h : FR ρ a L) (hc : c = 7 ∨ c = 8) : FR (reC c ρ) a L := fun hn x hx => reC_of (h hn x hx) (by omega)
section
variable {c : Nat} {w0 w w' : World} {ρ ρ' : Nat → Nat} {P : Nat × Nat × Nat} {gens : List Int} {free : List Bool} {D : List ArD} {rs : List Nat} {rt i t : Nat} {d : ArD} {Ls : List Lev} {r : Hd} {size : Nat}
theorem BW.reC (h : BW w0 w ρ P gens free D) (hc : c = 7 ∨ c = 8) : BW w0 w (reC c ρ) P gens free D := by
  obtain ⟨p, g, f⟩ := P
  obtain ⟨⟨h1, h2, h3⟩, ⟨hp, r1, r2, r3⟩, h4⟩ := h
  refine ⟨⟨h1, fun k hk => reC_of (h2 k hk) (by omega), fun k hk => reC_of (h3 k hk) (by omega)⟩, ⟨hp, reC_of r1 (by omega), reC_of r2 (by omega), reC_of r3 (by omega)⟩, fun i d hd => ?_⟩
  obtain ⟨a1, a2, a3, a4, a5⟩ := h4 i d hd
  exact ⟨a1, a2, reC_of a3 (by omega), reC_of a4 (by omega), fun e he => ⟨reC_of (a5 e he).1 (by omega), (a5 e he).2⟩⟩
theorem Tr.reC (h : Tr w ρ P D rt i t d Ls r size) (hc : c = 7 ∨ c = 8) : Tr w (reC c ρ) P D rt i t d Ls r size := by
  have h4 := h.rt4
  refine ⟨h.hd, h.ta, h.tc, h.rt4, reC_of h.rol (by omega), h.blk, h.top, fun x hx => ?_, h.nod, h.cnt, h.tow, h.thk⟩
  obtain ⟨e, e1, e2, e3, qka, qva, qha, qkc, qvc, qhc, e4, e5, f1, f2, f3⟩ := h.ent x hx
  exact ⟨e, e1, e2, e3, qka, qva, qha, qkc, qvc, qhc, e4, e5, f1.reC hc, f2.reC hc, f3.reC hc⟩
end
/-- A reader's visits in the world: the tree at block t; the visit function f; what it writes has roles rs. -/
structure VisW {σ : Type} (V : Vis σ) (w0 : World) (t f : Nat) (fi ca : Array Value) (rs : List Nat) (lim : Nat) (Inv : σ → World → (Nat → Nat) → Prop) : Prop where
  r0 : 0 ∉ rs
  tree : ∀ s W ρ, Inv s W ρ → Sane (V.Ls s) ∧ content (V.Ls s) ∈ V.ms s ∧ ∃ P gens free D rt i d r size, BW w0 W ρ P gens free D ∧ Tr W ρ P D rt i t d (V.Ls s) r size
  own : ∀ s W W' ρ S, Inv s W ρ → Upd S W W' → (∀ k, k ∈ S → k < W.heap.size → w0.heap.size ≤ k ∧ ρ k = 0) → Inv s W' ρ
  enter : ∀ args w, (callFunc f args).run Try.prog w = .ok (.enter f args) w
  call : ∀ s W ρ, Inv s W ρ → V.cnt s < lim → Calls Try.prog f (fi ++ ca) W fun e W' => e = .returned (.tuple #[]) ∧ ∃ s' ρ', V.Step s s' ∧ Inv s' W' ρ' ∧ RU rs W W' ρ ρ'
/-- A node's slices, in blocks that nobody writes. -/
def NodeF (W : World) (ρ : Nat → Nat) (n : BN) (qka qva qha : Option Addr) (qkc qvc qhc : Nat) : Prop := NodeAt W n qka qva qha qkc qvc qhc ∧ FR ρ qka n.keys ∧ FR ρ qva n.vals ∧ FR ρ qha n.kids
theorem NodeF.ru {W W' : World} {ρ ρ' : Nat → Nat} {rs : List Nat} (n : BN) (qka qva qha : Option Addr) (qkc qvc qhc : Nat) (h : NodeF W ρ n qka qva qha qkc qvc qhc) (hu : RU rs W W' ρ ρ') (h6 : 6 ∉ rs) : NodeF W' ρ' n qka qva qha qkc qvc qhc := by
  obtain ⟨⟨a1, a2, a3⟩, f1, f2, f3⟩ := h
  obtain ⟨b1, g1⟩ := a1.ru hu f1 h6
  obtain ⟨b2, g2⟩ := a2.ru hu f2 h6
  obtain ⟨b3, g3⟩ := a3.ru hu f3 h6
  exact ⟨⟨b1, b2, b3⟩, g1, g2, g3⟩
theorem RU.own {rs S : List Nat} {w wr wr' : World} {ρ ρ' : Nat → Nat} (h : RU rs w wr ρ ρ') (hu : Upd S wr wr') (hS : ∀ k, k ∈ S → w.heap.size ≤ k) : RU rs w wr' ρ ρ' :=
  ⟨hu.os.trans h.os, hu.tape.trans h.tape, hu.output.trans h.output, Nat.le_trans h.size hu.size, fun k hk hn => (hu.block k (Nat.lt_of_lt_of_le hk h.size) (fun hh => by have := hS k hh; omega)).trans (h.block k hk hn), h.role, fun k hk => h.far k (Nat.le_trans hu.size hk)⟩
theorem nodup_fst {α β : Type} : ∀ {l : List (α × β)}, (l.map (·.1)).Nodup → ∀ {a : α} {b c : β}, (a, b) ∈ l → (a, c) ∈ l → b = c
  | [], _, _, _, _, h, _ => by cases h
  | x :: l, hn, a, b, c, h1, h2 => by
    rw [List.map_cons, List.nodup_cons] at hn
    rcases List.mem_cons.1 h1 with e1 | h1
    · rcases List.mem_cons.1 h2 with e2 | h2
      · rw [← e1] at e2
        injection e2 with _ e2
        exact e2.symm
      · exact absurd (List.mem_map.2 ⟨(a, c), h2, by rw [← e1]⟩) hn.1
    · rcases List.mem_cons.1 h2 with e2 | h2
      · exact absurd (List.mem_map.2 ⟨(a, b), h1, by rw [← e2]⟩) hn.1
      · exact nodup_fst hn.2 h1 h2
section
variable {σ : Type} {V : Vis σ} {w0 : World} {t f lim : Nat} {fi ca : Array Value} {rs : List Nat} {Inv : σ → World → (Nat → Nat) → Prop} {s : σ} {w : World} {ρ : Nat → Nat}
def VLook (V : Vis σ) (rs : List Nat) (Inv : σ → World → (Nat → Nat) → Prop) (s : σ) (w : World) (ρ : Nat → Nat) (hh : Hd) (e : Ending) (w' : World) : Prop :=
  ∃ s' ρ', V.Step s s' ∧ Inv s' w' ρ' ∧ RU rs w w' ρ ρ' ∧ ∀ n, (hh, n) ∈ (V.Ls s').flatten → ∃ qka qva qha qkc qvc qhc, e = .returned (.tuple #[.agg #[.bool n.leaf, .slice qka n.keys.length qkc, .slice qva n.vals.length qvc, .slice qha n.kids.length qhc, .string n.high, .bool n.bnd, .int .i64 n.next.1, .int .u64 n.next.2], .bool true]) ∧ NodeF w' ρ' n qka qva qha qkc qvc qhc
set_option maxRecDepth 100000 in
theorem vis_look (hV : VisOK V) (hW : VisW V w0 t f fi ca rs lim Inv) (hI : Inv s w ρ) (hlm : V.cnt s < lim) {j : Nat} {hh : Hd} {lo : Str} (hhas : Has (V.Ls s) j hh lo) :
    Calls Try.prog 46 #[.pointer (some ⟨t, 0, none⟩), .agg #[.int .i64 hh.1, .int .u64 hh.2], .func (.func f) fi ca] w (VLook V rs Inv s w ρ hh) := by
  have hnf : ∀ W, (binOp .neq 1 (.func (.func f) fi ca) .nilFunc).run Try.prog W = .ok (.bool true) W := fun W => by
    simp only [binOp]
    simp [Op.equal, Op.maxDepth, run_equalIn_func_nil W 9999 1 (.func f) fi ca Try.underlying1]
  have hen := hW.enter
  have hro : w0.heap.size ≤ w.heap.size ∧ ρ w.heap.size = 0 ∧ ρ (w.heap.size + 1) = 0 := by
    obtain ⟨_, _, P, gens, free, D, rt, i, d, r, size, hB, _⟩ := hW.tree s w ρ hI
    exact ⟨hB.ro.bel.size, hB.ro.far _ (Nat.le_refl _), hB.ro.far _ (by omega)⟩
  obtain ⟨hro0, hro1, hro2⟩ := hro
  have hown := Lib.hid hW.own
  have hcl := Lib.hid fun W h => hW.call s W ρ h hlm
  have htr := Lib.hid hW.tree
  have hev := Lib.hid fun s' h => (hV.evo s s' h).has hhas
  have hr0 := Lib.hid hW.r0
  replace hI := Lib.hid hI
  clear hV hW hhas
  obtain ⟨h1, h2⟩ := hh
  simp only at hev ⊢
  go_enter Try.func46, Try.ntmps46
  go_upto_region 2 with fail
  obtain ⟨hbx, hby⟩ := heap_two w (.cells #[.int .i64 h1, .int .u64 h2] 70) (.cells #[.bool false, .slice none 0 0, .slice none 0 0, .slice none 0 0, .string ⟨#[]⟩, .bool false, .int .i64 0, .int .u64 0] 89)
  have hB := below_two w (.cells #[.int .i64 h1, .int .u64 h2] 70) (.cells #[.bool false, .slice none 0 0, .slice none 0 0, .slice none 0 0, .string ⟨#[]⟩, .bool false, .int .i64 0, .int .u64 0] 89)
  generalize (w.alloc (.cells #[.int .i64 h1, .int .u64 h2] 70)).alloc (.cells #[.bool false, .slice none 0 0, .slice none 0 0, .slice none 0 0, .string ⟨#[]⟩, .bool false, .int .i64 0, .int .u64 0] 89) = W0 at *
  have hI0 : Inv s W0 ρ := hown.out s w W0 ρ [] hI.out (Upd.of_below (S := []) hB) (by simp)
  have hc0 := Lib.hid (hcl.out W0 hI0)
  have hR0 : Hid (RU rs w W0 ρ ρ) := Lib.hid (by
    obtain ⟨_, _, P, gens, free, D, rt, i, d, r, size, hB0, _⟩ := htr.out s w ρ hI.out
    exact RU.below hB0.ro hB)
  replace hbx := Lib.hid hbx
  replace hby := Lib.hid hby
  clear hcl hI hI0 hB
  go_wp2_with fail
  refine hc0.out.mono ?_
  clear hc0 hen hnf
  rintro e w2 ⟨rfl, s', ρ2, hst, hI2, hR2⟩
  obtain ⟨hsn, _, P, gens, free, D, rt, i, d, r, size, hB2, hT2⟩ := htr.out s' w2 ρ2 hI2
  obtain ⟨n, A, B, hin⟩ := hsn.tow.nodeIn (hev.out s' hst)
  obtain ⟨en, he, e1, e2, qka, qva, qha, qkc, qvc, qhc, e3, e4⟩ := hT2.ent _ hin.memF
  have hq0 : w.heap.size < W0.heap.size := heap_lt hbx.out
  have hq1 : w.heap.size + 1 < W0.heap.size := heap_lt hby.out
  have r1 : ρ2 w.heap.size = 0 := by rw [hR2.role _ hq0]; exact hro1
  have r2 : ρ2 (w.heap.size + 1) = 0 := by rw [hR2.role _ hq1]; exact hro2
  have hbx2 := hR2.heap hbx.out (by rw [hro1]; exact hr0.out)
  have hby2 := hR2.heap hby.out (by rw [hro2]; exact hr0.out)
  obtain ⟨c0, c1, c2, c3, c4, c5, hq⟩ := hT2.cells
  have hG := Lib.hid fun W (hW : Below w2.heap.size w2 W) => (hB2.below hW).get hT2.hd hT2.ta hT2.tc he e1 e2
  have hc := hB2.cellsOf hT2.hd hT2.tc he
  rw [e3] at hc
  have hfin : Hid (∀ W W', Below w2.heap.size w2 W → Upd [w.heap.size + 1] W W' → VLook V rs Inv s w ρ (h1, h2) (.returned (.tuple #[.agg #[.bool n.leaf, .slice qka n.keys.length qkc, .slice qva n.vals.length qvc, .slice qha n.kids.length qhc, .string n.high, .bool n.bnd, .int .i64 n.next.1, .int .u64 n.next.2], .bool true])) W') := Lib.hid (by
    intro W W' hW hu
    have hIW : Inv s' W ρ2 := hown.out _ _ _ _ [] hI2 (Upd.of_below (S := []) hW) (by simp)
    refine ⟨s', ρ2, hst, hown.out _ _ _ _ [w.heap.size + 1] hIW hu (fun k hk _ => ?_), ((hR0.out.trans hR2).own (Upd.of_below (S := []) hW) (by simp)).own hu (by simp), fun n' hn' => ?_⟩
    · simp only [List.mem_singleton] at hk
      subst hk
      exact ⟨by omega, r2⟩
    · have := nodup_fst hT2.nod hn' hin.memF
      subst this
      have hf1 : NodeF w2 ρ2 n' qka qva qha qkc qvc qhc := e4
      have hf2 := NodeF.ru n' qka qva qha qkc qvc qhc hf1 (RU.below (rs := [0]) hB2.ro hW) (by simp)
      exact ⟨qka, qva, qha, qkc, qvc, qhc, rfl, NodeF.ru n' qka qva qha qkc qvc qhc hf2 (RU.upd (rs := [0]) (hB2.below hW).ro hu (fun k hk _ => by simp only [List.mem_singleton] at hk; subst hk; simp [r2])) (by simp)⟩)
  generalize en.blk = q at *
  clear e1 e2 e3 e4 he hin hT2 hB2 hI2 hsn hst hev htr hown hR0 hR2 hbx hby hr0 r1 r2 hro0 hro1 hro2
  simp only at hG hc ⊢
  have k0 : w2.cell? ⟨w.heap.size, 0, none⟩ = some (.int .i64 h1) := by rw [cell_of_heap hbx2]; rfl
  have k1 : w2.cell? ⟨w.heap.size, 1, none⟩ = some (.int .u64 h2) := by rw [cell_of_heap hbx2]; rfl
  have hqx : w.heap.size < w2.heap.size := heap_lt hbx2
  clear c0 c2 c3 c4 c5 hbx2 hq0 hq1
  have hcw := Lib.hid fun W (hW : Below w2.heap.size w2 W) => node_cells1 n qka qva qha qkc qvc qhc (Below.heap' hW hc)
  obtain ⟨lf, K, V, H, hi, bd, nx⟩ := n
  simp only at hcw hfin
  clear hc
  replace hby2 := Lib.hid hby2
  have hB := Below.refl w2.heap.size w2
  have c1' := c1
  clear c1
  go_wp2_with fail
  go_region_with (go_at_call 52; refine (hG.out _ hB.drew).mono ?_; rintro z w1 ⟨rfl, hb1⟩; have hbw := hB.drew.trans (hb1.mono hB.drew.size); obtain ⟨x1, x2, x3, x4, x5, x6, x7, x8⟩ := hcw.out w1 hbw; have hy1 := Below.heap' hb1 hby2.out; have hq1 := heap_lt hy1; have y := fun k => frozen_of_heap hy1 k; obtain ⟨y0, y1, y2, y3, y4, y5, y6, y7⟩ := And.intro (y 0) (And.intro (y 1) (And.intro (y 2) (And.intro (y 3) (And.intro (y 4) (And.intro (y 5) (And.intro (y 6) (y 7))))))); obtain ⟨z0, z1, z2, z3, z4, z5, z6, z7⟩ := node_cells false none 0 0 none 0 0 none 0 0 ⟨#[]⟩ false 0 0 hy1; clear y; replace hbw := Lib.hid hbw; clear hb1 hy1)
  all_goals
    go_wp2_with fail
    refine bodyPost_ret (v := .tuple #[.agg #[.bool lf, .slice qka K.length qkc, .slice qva V.length qvc, .slice qha H.length qhc, .string hi, .bool bd, .int .i64 nx.1, .int .u64 nx.2], .bool true]) (by simp [results, Try.results46, go_sem, z0, z1, z2, z3, z4, z5, z6, z7]) rfl ?_
    refine hfin.out _ _ hbw.out ?_
    iterate 8 refine Upd.setCell ?_ (by simp) _
    exact Upd.refl _ _
end
end Go.Proofs.Ytlhobbfncjjeaaa
namespace Go.Proofs.Ytlhobbfncjjeaaa
open Go.RowKit
section
variable {σ : Type} {V : Vis σ} {w0 : World} {t f lim : Nat} {fi ca : Array Value} {rs : List Nat} {Inv : σ → World → (Nat → Nat) → Prop} {s : σ} {w : World} {ρ : Nat → Nat}
/-- What a leaf's search leaves. -/
def VLeafE (V : Vis σ) (rs : List Nat) (Inv : σ → World → (Nat → Nat) → Prop) (LIM : Nat) (s : σ) (w : World) (ρ : Nat → Nat) (key : Str) (e : Ending) (w' : World) : Prop :=
  ∃ s' ρ' h lo n A B, ∃ qka qva qha qkc qvc qhc, e = .returned (.tuple #[.agg #[.bool n.leaf, .slice qka n.keys.length qkc, .slice qva n.vals.length qvc, .slice qha n.kids.length qhc, .string n.high, .bool n.bnd, .int .i64 n.next.1, .int .u64 n.next.2], .bool true]) ∧ NodeF w' ρ' n qka qva qha qkc qvc qhc ∧ LeafQ V s key s' 0 h lo n A B ∧ n.covers key = true ∧ V.cnt s' + msr V s' 0 B ≤ LIM ∧ Inv s' w' ρ' ∧ RU rs w w' ρ ρ'
def VLeaf (V : Vis σ) (rs : List Nat) (Inv : σ → World → (Nat → Nat) → Prop) (s : σ) (w : World) (ρ : Nat → Nat) (key : Str) (e : Ending) (w' : World) : Prop := VLeafE V rs Inv (V.cnt s + V.wk s * 100000000 + 40000000) s w ρ key e w'
theorem VisW.ro (hW : VisW V w0 t f fi ca rs lim Inv) (hI : Inv s w ρ) : Ro w0 w ρ := by
  obtain ⟨_, _, P, gens, free, D, rt, i, d, r, size, hB, _⟩ := hW.tree s w ρ hI
  exact hB.ro
/-- A reader's own blocks are written. -/
theorem VisW.step (hW : VisW V w0 t f fi ca rs lim Inv) {s2 : σ} {w2 : World} {ρ2 : Nat → Nat} (hI : Inv s2 w2 ρ2) (hR : RU rs w w2 ρ ρ2) (h0 : w0.heap.size ≤ w.heap.size) {S : List Nat} (hS : ∀ k, k ∈ S → w.heap.size ≤ k ∧ ρ2 k = 0) {W W' : World} (hb : Below w2.heap.size w2 W) (hu : Upd S W W') :
    Inv s2 W' ρ2 ∧ RU rs w W' ρ ρ2 ∧ ∀ (n : BN) (qka qva qha : Option Addr) (qkc qvc qhc : Nat), NodeF w2 ρ2 n qka qva qha qkc qvc qhc → NodeF W' ρ2 n qka qva qha qkc qvc qhc := by
  have hro := hW.ro hI
  have hI2 : Inv s2 W ρ2 := hW.own _ _ _ _ [] hI (Upd.of_below (S := []) hb) (by simp)
  refine ⟨hW.own _ _ _ _ S hI2 hu (fun k hk _ => ⟨Nat.le_trans h0 (hS k hk).1, (hS k hk).2⟩), (hR.own (Upd.of_below (S := []) hb) (by simp)).own hu (fun k hk => (hS k hk).1), fun n qka qva qha qkc qvc qhc hf => ?_⟩
  exact NodeF.ru n qka qva qha qkc qvc qhc (NodeF.ru n qka qva qha qkc qvc qhc hf (RU.below (rs := [0]) hro hb) (by simp)) (RU.upd (rs := [0]) (hW.ro hI2) hu (fun k hk _ => by simp [(hS k hk).2])) (by simp)
set_option maxRecDepth 100000 in
set_option maxHeartbeats 1000000 in
theorem vis_leaf (hV : VisOK V) (hW : VisW V w0 t f fi ca rs lim Inv) (hI : Inv s w ρ) (hlim : V.cnt s + V.wk s * 100000000 + 40000000 ≤ lim) (key : Str) :
    Calls Try.prog 43 #[.pointer (some ⟨t, 0, none⟩), .string key, .func (.func f) fi ca] w (VLeaf V rs Inv s w ρ key) := by
  obtain ⟨hsn, _, P, gens, free, D, rt, i, d, r, size, hB, hT⟩ := hW.tree s w ρ hI
  obtain ⟨m0, htop⟩ := hT.top
  obtain ⟨j0, hj0, hP0⟩ := LeafP.start (V := V) (key := key) hsn htop
  obtain ⟨c0, c1, c2, c3, c4, c5, hq⟩ := hT.cells
  have hro := hB.ro
  have h00 := hro.bel.size
  have hLk := Lib.hid fun s' W ρ' hI' hlm j hh lo h => vis_look hV hW (s := s') (w := W) (ρ := ρ') hI' hlm (j := j) (hh := hh) (lo := lo) h
  have htr := Lib.hid hW.tree
  have hWh := Lib.hid hW
  have hVh := Lib.hid hV
  have hst0 : Hid (∀ W, Below w.heap.size w W → Inv s W ρ ∧ RU rs w W ρ ρ) := Lib.hid fun W hb => ⟨hW.own _ _ _ _ [] hI (Upd.of_below (S := []) hb) (by simp), RU.below hro hb⟩
  have hz1 := hro.far w.heap.size (Nat.le_refl _)
  have hz2 := hro.far (w.heap.size + 1) (by omega)
  have hj1 : j0 < 1000 := by have := hsn.len; omega
  obtain ⟨LIM, hLIM⟩ : ∃ LIM, LIM = V.cnt s + V.wk s * 100000000 + 40000000 := ⟨_, rfl⟩
  have hL0 : V.cnt s + msr V s j0 [] + 1 ≤ LIM := by
    unfold msr
    simp only [List.length_nil]
    omega
  rw [← hLIM] at hlim
  unfold VLeaf
  rw [← hLIM]
  clear hLIM
  replace hP0 := Lib.hid hP0
  replace hz1 := Lib.hid hz1
  replace hz2 := Lib.hid hz2
  clear hV hW hI hsn hB hT htop hro hj0
  go_enter Try.func43, Try.ntmps43
  go_wp2_with fail
  go_loopg [7] (msr V s j0 []) (fun gk v wr => ∃ (s1 : σ) (ρ1 : Nat → Nat) (j : Nat) (h : Hd) (lo : Str) (n : BN) (A B : Lev), gk = msr V s1 j B ∧ V.cnt s1 + gk + 1 ≤ LIM ∧ v = .bool false ∧ LeafP V s key s1 j h lo n A B ∧ Inv s1 wr ρ1 ∧ RU rs w wr ρ ρ1 ∧ ρ1 w.heap.size = 0 ∧ ρ1 (w.heap.size + 1) = 0 ∧ wr.heap[w.heap.size]? = some (.cells #[.bool false, .slice none 0 0, .slice none 0 0, .slice none 0 0, .string ⟨#[]⟩, .bool false, .int .i64 0, .int .u64 0] 89) ∧ wr.heap[w.heap.size + 1]? = some (.cells #[.int .i64 h.1, .int .u64 h.2] 70))
  case atStart =>
    obtain ⟨hbx, hby⟩ := heap_two w (.cells #[.bool false, .slice none 0 0, .slice none 0 0, .slice none 0 0, .string ⟨#[]⟩, .bool false, .int .i64 0, .int .u64 0] 89) (.cells #[.int .i64 r.1, .int .u64 r.2] 70)
    obtain ⟨a1, a2⟩ := hst0.out _ (below_two w (.cells #[.bool false, .slice none 0 0, .slice none 0 0, .slice none 0 0, .string ⟨#[]⟩, .bool false, .int .i64 0, .int .u64 0] 89) (.cells #[.int .i64 r.1, .int .u64 r.2] 70))
    exact ⟨s, ρ, j0, r, _, m0, [], [], rfl, hL0, rfl, hP0.out, a1, a2, hz1.out, hz2.out, hbx, hby⟩
  case round =>
    clear c0 c1 c2 c3 c4 c5 hq hP0 hst0 hz1 hz2
    obtain ⟨s1, ρ1, j, hh, lo, n0, A0, B0, rfl, hcL, rfl, hP, hI1, hR1, hr1, hr2, hbz, hbh⟩ := hrel
    have hl := hLk.out s1 wr ρ1 hI1 (by omega) j hh lo hP.at'.has
    have k0 : wr.cell? ⟨w.heap.size + 1, 0, none⟩ = some (.int .i64 hh.1) := by rw [cell_of_heap hbh]; rfl
    have k1 : wr.cell? ⟨w.heap.size + 1, 1, none⟩ = some (.int .u64 hh.2) := by rw [cell_of_heap hbh]; rfl
    have hbhq := heap_lt hbh
    obtain ⟨h1, h2⟩ := hh
    simp only at hl k0 k1 hbh
    replace hl := Lib.hid hl
    replace hP := Lib.hid hP
    replace hI1 := Lib.hid hI1
    replace hR1 := Lib.hid hR1
    replace hr1 := Lib.hid hr1
    replace hr2 := Lib.hid hr2
    replace hbz := Lib.hid hbz
    replace hbh := Lib.hid hbh
    clear hLk
    go_wp2_with fail
    refine hl.out.mono ?_
    clear hl
    rintro e w2 ⟨s2, ρ2, hst, hI2, hR2, hn⟩
    obtain ⟨hsn2, _, P, gens, free, D, rt, i, d, r', size, hB2, hT2⟩ := htr.out s2 w2 ρ2 hI2
    obtain ⟨n, A, B, hQ, hm⟩ := hP.out.look hVh.out hst hsn2
    have hcn := hVh.out.cnt _ _ hst
    obtain ⟨qka, qva, qha, qkc, qvc, qhc, rfl, hnf⟩ := hn n hQ.at'.memF
    have hks : n.keys.length ≤ 1000 := by have := hsn2.slim j _ hQ.at'.lev ((h1, h2), n) (by simp); simp only at this; omega
    have hr12 : ρ2 w.heap.size = 0 := by rw [hR2.role _ (heap_lt hbz.out)]; exact hr1.out
    have hr22 : ρ2 (w.heap.size + 1) = 0 := by rw [hR2.role _ (heap_lt hbh.out)]; exact hr2.out
    have hbz2 := hR2.heap hbz.out (by rw [hr1.out]; exact hWh.out.r0)
    have hbh2 := hR2.heap hbh.out (by rw [hr2.out]; exact hWh.out.r0)
    have hR12 := hR1.out.trans hR2
    have hcon := Lib.hid fun (W W' : World) hb hu => hWh.out.step (s2 := s2) (w2 := w2) (ρ2 := ρ2) hI2 hR12 h00 (S := [w.heap.size, w.heap.size + 1]) (fun k hk => by
      simp only [List.mem_cons, List.not_mem_nil, or_false] at hk
      rcases hk with rfl | rfl
      · exact ⟨Nat.le_refl _, hr12⟩
      · exact ⟨by omega, hr22⟩) (W := W) (W' := W') hb hu
    have hKd := Lib.hid fun (z : Hd) (hlf0 : n.leaf = false) (hc : n.covers key = true) (hz : n.kids[cutE key n.keys]? = some z) W hW => nKid_ok n qka qva qha qkc qvc qhc key z W hQ.at'.ok (hnf.1.below (w' := W) n qka qva qha qkc qvc qhc hW) hks hlf0 hc hz
    have hCv := Lib.hid fun W => nCovers_any n.leaf qka n.keys.length qkc qva n.vals.length qvc qha n.kids.length qhc n.high n.bnd n.next.1 n.next.2 key W
    rw [show (!n.bnd || slt key n.high) = n.covers key from rfl] at hCv
    have hfin : Hid (j = 0 → n.covers key = true → ∀ W W', Below w2.heap.size w2 W → Upd [w.heap.size] W W' → VLeafE V rs Inv LIM s w ρ key (.returned (.tuple #[.agg #[.bool n.leaf, .slice qka n.keys.length qkc, .slice qva n.vals.length qvc, .slice qha n.kids.length qhc, .string n.high, .bool n.bnd, .int .i64 n.next.1, .int .u64 n.next.2], .bool true])) W') := Lib.hid fun h0 hc W W' hW hu => by
      subst h0
      obtain ⟨a1, a2, a3⟩ := hcon.out W W' hW (hu.mono (by simp))
      exact ⟨s2, ρ2, _, lo, n, A, B, qka, qva, qha, qkc, qvc, qhc, rfl, a3 _ _ _ _ _ _ _ hnf, hQ, hc, by omega, a1, a2⟩
    have hlf : Hid (n.leaf = decide (j = 0)) := Lib.hid hQ.at'.lf
    have hq2 := heap_lt hbh2
    have hqz2 := heap_lt hbz2
    obtain ⟨M, hM⟩ : ∃ M, M = msr V s1 j B0 := ⟨_, rfl⟩
    have hri : Hid (n.covers key = false → ∃ (y : Hd × BN) (A' B' : Lev) (M2 : Nat), n.next = y.1 ∧ LeafP V s key s2 j y.1 n.high y.2 A' B' ∧ M2 = msr V s2 j B' ∧ M2 < M ∧ V.cnt s2 + M2 + 1 ≤ LIM) := Lib.hid fun hc => by
      obtain ⟨y, A', B', g1, g2, g3⟩ := hQ.right hsn2 hc
      exact ⟨y, A', B', _, g1, g2, rfl, by rw [hM]; exact Nat.lt_of_lt_of_le g3 hm, by omega⟩
    have hdo : Hid (∀ i, j = i + 1 → n.covers key = true → ∃ (z : Hd) (lo' : Str) (m : BN) (A' B' : Lev) (M2 : Nat), n.kids[cutE key n.keys]? = some z ∧ LeafP V s key s2 i z lo' m A' B' ∧ M2 = msr V s2 i B' ∧ M2 < M ∧ V.cnt s2 + M2 + 1 ≤ LIM) := Lib.hid fun i hi hc => by
      subst hi
      obtain ⟨z, lo', m, A', B', g1, g2, g3⟩ := hQ.down hsn2 hc
      exact ⟨z, lo', m, A', B', _, g1, g2, rfl, by rw [hM]; exact Nat.lt_of_lt_of_le g3 hm, by omega⟩
    replace hM := Lib.hid hM
    replace hbz2 := Lib.hid hbz2
    replace hbh2 := Lib.hid hbh2
    replace hr12 := Lib.hid hr12
    replace hr22 := Lib.hid hr22
    clear hP hI1 hR1 hr1 hr2 hbz hbh hst hR2 hn hT2 hB2 hsn2 hQ hm hnf hI2 k0 k1 hbhq hR12 hks
    obtain ⟨cv, hcv⟩ : ∃ cv, cv = n.covers key := ⟨_, rfl⟩
    rw [← hcv] at hri hdo hKd hCv hfin
    clear hcv
    obtain ⟨lf, K, V, H, hi, bd, nx⟩ := n
    simp only at hKd hCv hfin hlf hdo hri ⊢
    go_wp2_with fail
    have hA : Below w2.heap.size w2 (w2.alloc (.cells #[.bool lf, .slice qka K.length qkc, .slice qva V.length qvc, .slice qha H.length qhc, .string hi, .bool bd, .int .i64 nx.1, .int .u64 nx.2] 89)) := (Below.refl _ _).alloc (Nat.le_refl _) _
    have hT := heap_alloc_new w2 (.cells #[.bool lf, .slice qka K.length qkc, .slice qva V.length qvc, .slice qha H.length qhc, .string hi, .bool bd, .int .i64 nx.1, .int .u64 nx.2] 89)
    generalize w2.alloc (.cells #[.bool lf, .slice qka K.length qkc, .slice qva V.length qvc, .slice qha H.length qhc, .string hi, .bool bd, .int .i64 nx.1, .int .u64 nx.2] 89) = W2 at *
    refine (hCv.out W2).mono ?_
    clear hCv
    rintro e w3 ⟨rfl, hb3⟩
    have hB3 : Below w2.heap.size w2 w3 := hA.trans (hb3.mono hA.size)
    replace hT := Below.heap' hb3 hT
    have hbz3 := Below.heap' hB3 hbz2.out
    have hbh3 := Below.heap' hB3 hbh2.out
    clear hA hb3
    obtain ⟨c0, c1, c2, c3, c4, c5, c6, c7⟩ := node_cells _ _ _ _ _ _ _ _ _ _ _ _ _ _ hT
    have hqT := heap_lt hT
    replace hT := Lib.hid hT
    replace hbz3 := Lib.hid hbz3
    replace hbh3 := Lib.hid hbh3
    replace hB3 := Lib.hid hB3
    cases cv with
    | false =>
      obtain ⟨⟨y1, y2⟩, A', B', M2, g1, g2, g3, g4, g5⟩ := hri.out rfl
      simp only at g1 g2
      subst g1
      have k0 : w3.cell? ⟨w.heap.size + 1, 0, none⟩ = some (.int .i64 h1) := by rw [cell_of_heap hbh3.out]; rfl
      have k1 : w3.cell? ⟨w.heap.size + 1, 1, none⟩ = some (.int .u64 h2) := by rw [cell_of_heap hbh3.out]; rfl
      have f0 : w3.frozen? ⟨w.heap.size + 1, 0, none⟩ = false := frozen_of_heap hbh3.out _
      have f1 : w3.frozen? ⟨w.heap.size + 1, 1, none⟩ = false := frozen_of_heap hbh3.out _
      have hq3 := heap_lt hbh3.out
      replace g2 := Lib.hid g2
      replace g3 := Lib.hid g3
      replace g5 := Lib.hid g5
      go_wp2_with fail
      go_roundg M2
      case rel =>
        obtain ⟨a1, a2, _⟩ := hcon.out w3 _ hB3.out (((Upd.refl (S := [w.heap.size, w.heap.size + 1]) w3).setCell (p := ⟨w.heap.size + 1, 0, none⟩) (by simp) (.int .i64 nx.1)).setCell (p := ⟨w.heap.size + 1, 1, none⟩) (by simp) (.int .u64 nx.2))
        refine ⟨s2, ρ2, j, nx, hi, y2, A', B', g3.out, g5.out, rfl, g2.out, a1, a2, hr12.out, hr22.out, ?_, ?_⟩
        · rw [heap_set_other _ _ (by simp), heap_set_other _ _ (by simp)]
          exact hbz3.out
        · rw [heap_self, heap_self, hbh3.out]
          rfl
      case measure => have := hM.out; omega
    | true =>
      rcases j with _ | j
      · have e0 : lf = true := hlf.out
        subst e0
        obtain ⟨d0, d1, d2, d3, d4, d5, d6, d7⟩ := node_cells false none 0 0 none 0 0 none 0 0 ⟨#[]⟩ false 0 0 hbz3.out
        have y := fun k => frozen_of_heap hbz3.out k
        obtain ⟨f0, f1, f2, f3, f4, f5, f6, f7⟩ := And.intro (y 0) (And.intro (y 1) (And.intro (y 2) (And.intro (y 3) (And.intro (y 4) (And.intro (y 5) (And.intro (y 6) (y 7)))))))
        have hqz := heap_lt hbz3.out
        clear y
        go_wp2_with fail
        refine bodyPost_ret (v := .tuple #[.agg #[.bool true, .slice qka K.length qkc, .slice qva V.length qvc, .slice qha H.length qhc, .string hi, .bool bd, .int .i64 nx.1, .int .u64 nx.2], .bool true]) (by simp [results, Try.results43, go_sem, d0, d1, d2, d3, d4, d5, d6, d7]) rfl ?_
        refine hfin.out trivial trivial _ _ hB3.out ?_
        iterate 8 refine Upd.setCell ?_ (by simp) _
        exact Upd.refl _ _
      · have e0 : lf = false := by simpa using hlf.out
        subst e0
        obtain ⟨z, lo', m, A', B', M2, g1, g2, g3, g4, g5⟩ := hdo.out j rfl rfl
        replace g2 := Lib.hid g2
        replace g3 := Lib.hid g3
        replace g5 := Lib.hid g5
        go_wp2_with fail
        refine (hKd.out z trivial trivial g1 w3 hB3.out).mono ?_
        clear hKd
        rintro e w4 ⟨rfl, hb4⟩
        have hbz4 := Below.heap' hb4 hbz3.out
        have hbh4 := Below.heap' hb4 hbh3.out
        have hB4 := hB3.out.trans (hb4.mono hB3.out.size)
        have k0 : w4.cell? ⟨w.heap.size + 1, 0, none⟩ = some (.int .i64 h1) := by rw [cell_of_heap hbh4]; rfl
        have k1 : w4.cell? ⟨w.heap.size + 1, 1, none⟩ = some (.int .u64 h2) := by rw [cell_of_heap hbh4]; rfl
        have f0 : w4.frozen? ⟨w.heap.size + 1, 0, none⟩ = false := frozen_of_heap hbh4 _
        have f1 : w4.frozen? ⟨w.heap.size + 1, 1, none⟩ = false := frozen_of_heap hbh4 _
        have hq4 := heap_lt hbh4
        clear c0 c1 c2 c3 c4 c5 c6 c7 hqT hb4
        replace hbz4 := Lib.hid hbz4
        replace hbh4 := Lib.hid hbh4
        replace hB4 := Lib.hid hB4
        go_wp2_with fail
        go_roundg M2
        case rel =>
          obtain ⟨a1, a2, _⟩ := hcon.out w4 _ hB4.out (((Upd.refl (S := [w.heap.size, w.heap.size + 1]) w4).setCell (p := ⟨w.heap.size + 1, 0, none⟩) (by simp) (.int .i64 z.1)).setCell (p := ⟨w.heap.size + 1, 1, none⟩) (by simp) (.int .u64 z.2))
          refine ⟨s2, ρ2, j, z, lo', m, A', B', g3.out, g5.out, rfl, g2.out, a1, a2, hr12.out, hr22.out, ?_, ?_⟩
          · rw [heap_set_other _ _ (by simp), heap_set_other _ _ (by simp)]
            exact hbz4.out
          · rw [heap_self, heap_self, hbh4.out]
            rfl
        case measure => have := hM.out; omega
end
end Go.Proofs.Ytlhobbfncjjeaaa
namespace Go.Proofs.Ytlhobbfncjjeaaa
open Go.RowKit
section
variable {σ : Type} {V : Vis σ} {w0 : World} {t f lim : Nat} {fi ca : Array Value} {rs : List Nat} {Inv : σ → World → (Nat → Nat) → Prop} {s : σ} {w : World} {ρ : Nat → Nat}
/-- What Get leaves. -/
def VGet (V : Vis σ) (rs : List Nat) (Inv : σ → World → (Nat → Nat) → Prop) (w : World) (ρ : Nat → Nat) (key : Str) (e : Ending) (w' : World) : Prop :=
  ∃ s' ρ', e = .returned (.tuple #[.string ((cget (content (V.Ls s')) key).getD s0), .bool (cget (content (V.Ls s')) key).isSome, .bool false]) ∧ content (V.Ls s') ∈ V.ms s' ∧ Inv s' w' ρ' ∧ RU rs w w' ρ ρ'
set_option maxRecDepth 100000 in
theorem vis_get (hV : VisOK V) (hW : VisW V w0 t f fi ca rs lim Inv) (hI : Inv s w ρ) (hlim : V.cnt s + V.wk s * 100000000 + 40000000 ≤ lim) (key : Str) :
    Calls Try.prog 14 #[.pointer (some ⟨t, 0, none⟩), .string key, .func (.func f) fi ca] w (VGet V rs Inv w ρ key) := by
  obtain ⟨_, _, P, gens, free, D, rt, i, d, r, size, hB, hT⟩ := hW.tree s w ρ hI
  obtain ⟨c0, c1, c2, c3, c4, c5, hq⟩ := hT.cells
  have h00 := hB.ro.bel.size
  have hn := none_ok c1
  have hLf := Lib.hid (vis_leaf hV hW hI hlim key)
  have hWh := Lib.hid hW
  clear hV hW hI hB hT
  go_enter Try.func14, Try.ntmps14
  go_wp2_with fail
  refine hn.mono ?_
  rintro e w1 ⟨rfl, rfl⟩
  go_wp2_with fail
  refine hLf.out.mono ?_
  clear hLf hn
  rintro e w2 ⟨s2, ρ2, hh, lo, n, A, B, qka, qva, qha, qkc, qvc, qhc, rfl, hnf, hQ, hc, _, hI2, hR2⟩
  obtain ⟨hsn2, hms, P, gens, free, D, rt, i, d, r', size, hB2, hT2⟩ := hWh.out.tree s2 w2 ρ2 hI2
  have hks : n.keys.length ≤ 1000 := by have := hsn2.slim 0 _ hQ.at'.lev (hh, n) (by simp); simp only at this; omega
  have hg := hQ.at'.get hsn2.tow hQ.low hc
  have hlf : n.leaf = true := hQ.at'.lf
  have hvl := (hQ.at'.ok.lf hlf).1
  have hold : Hid (hasK key n.keys = true → n.vals[cut key n.keys]? = some (n.old key)) := Lib.hid fun hr => by
    have hlt := (List.getElem?_eq_some_iff.1 (hasK_iff.1 hr)).1
    unfold BN.old
    rw [if_pos hr, List.getD_eq_getElem?_getD, List.getElem?_eq_getElem (by omega)]
    rfl
  obtain ⟨od, hod⟩ : ∃ od, od = n.old key := ⟨_, rfl⟩
  rw [← hod] at hold hg
  clear hod
  have hfin : Hid (∀ W, Below w2.heap.size w2 W → VGet V rs Inv w ρ key (.returned (.tuple #[.string ((if hasK key n.keys then some od else none).getD s0), .bool (if hasK key n.keys then some od else none).isSome, .bool false])) W) := Lib.hid fun W hW => by
    obtain ⟨a1, a2, _⟩ := hWh.out.step hI2 hR2 h00 (S := []) (by simp) hW (Upd.refl _ _)
    exact ⟨s2, ρ2, by rw [hg], hms, a1, a2⟩
  have hF := Lib.hid fun W (hW : Below w2.heap.size w2 W) => nFind_any n.leaf qka n.keys.length qkc qva n.vals.length qvc qha n.kids.length qhc n.high n.bnd n.next.1 n.next.2 n.keys key W (hnf.1.1.below hW) rfl
  have hV := Lib.hid fun (hr : hasK key n.keys = true) => hnf.1.2.1.str (by have := hvl; have := (List.getElem?_eq_some_iff.1 (hasK_iff.1 hr)).1; omega)
  have hcl := cut_le key n.keys
  replace hvl := Lib.hid hvl
  clear hnf hQ hI2 hR2 hB2 hT2 hsn2 hms hg hlf
  obtain ⟨lf, K, V, H, hi, bd, nx⟩ := n
  simp only at hF hV hold hks hvl hcl hfin ⊢
  have hA : Below w2.heap.size w2 (w2.alloc (.cells #[.bool lf, .slice qka K.length qkc, .slice qva V.length qvc, .slice qha H.length qhc, .string hi, .bool bd, .int .i64 nx.1, .int .u64 nx.2] 89)) := (Below.refl _ _).alloc (Nat.le_refl _) _
  have hT := heap_alloc_new w2 (.cells #[.bool lf, .slice qka K.length qkc, .slice qva V.length qvc, .slice qha H.length qhc, .string hi, .bool bd, .int .i64 nx.1, .int .u64 nx.2] 89)
  obtain ⟨c0, c1, c2, c3, c4, c5, c6, c7⟩ := node_cells _ _ _ _ _ _ _ _ _ _ _ _ _ _ hT
  replace hA := Lib.hid hA
  replace hT := Lib.hid hT
  go_wp2_with fail
  refine (hF.out _ hA.out).mono ?_
  clear hF
  rintro e w3 ⟨rfl, hb3⟩
  have hT3 := Below.heap' hb3 hT.out
  have hB3 := hA.out.trans (hb3.mono hA.out.size)
  clear c0 c1 c2 c3 c4 c5 c6 c7 hb3 hA hT
  obtain ⟨c0, c1, c2, c3, c4, c5, c6, c7⟩ := node_cells _ _ _ _ _ _ _ _ _ _ _ _ _ _ hT3
  have hq3 := heap_lt hT3
  replace hT3 := Lib.hid hT3
  cases hr : hasK key K with
  | true =>
    rw [hr] at hfin
    obtain ⟨b, o, rfl, hbw, hvc, hvc63, hvat⟩ := hV.out hr
    have hlt : cut key K < V.length := (List.getElem?_eq_some_iff.1 (hold.out hr)).1
    have g1 := keep hB3 (hvat _ _ (hold.out hr))
    clear hvat hcl
    replace hB3 := Lib.hid hB3
    generalize cut key K = ix at *
    go_wp2_with fail
    go_ret3
    exact hfin.out _ hB3.out
  | false =>
    rw [hr] at hfin
    replace hB3 := Lib.hid hB3
    clear hV
    go_wp2_with fail
    go_ret3
    exact hfin.out _ hB3.out
/-- What Next leaves. -/
def VNext (V : Vis σ) (rs : List Nat) (Inv : σ → World → (Nat → Nat) → Prop) (s : σ) (w : World) (ρ : Nat → Nat) (key : Str) (after : Bool) (e : Ending) (w' : World) : Prop :=
  ∃ s' ρ' o, e = .returned (nextV o) ∧ NextOK V s key after s' o ∧ Inv s' w' ρ' ∧ RU rs w w' ρ ρ'
/-- What a look to the right leaves, on Next's way. -/
def VGo (V : Vis σ) (rs : List Nat) (Inv : σ → World → (Nat → Nat) → Prop) (s : σ) (w : World) (ρ : Nat → Nat) (key : Str) (after : Bool) (lim b M : Nat) (h : Hd) (lo : Str) (W : World) (e : Ending) (W' : World) : Prop :=
  ∃ s2 ρ2 n A B M2, ∃ qka qva qha qkc qvc qhc, e = .returned (.tuple #[.agg #[.bool n.leaf, .slice qka n.keys.length qkc, .slice qva n.vals.length qvc, .slice qha n.kids.length qhc, .string n.high, .bool n.bnd, .int .i64 n.next.1, .int .u64 n.next.2], .bool true]) ∧ NextP V s key after s2 h lo n A B ∧ M2 = msr V s2 0 B ∧ M2 < M ∧ V.cnt s2 + M2 ≤ lim ∧ NodeF W' ρ2 n qka qva qha qkc qvc qhc ∧ Inv s2 W' ρ2 ∧ RU rs w W' ρ ρ2 ∧ ρ2 b = 0 ∧ W'.heap[b]? = W.heap[b]?
set_option maxRecDepth 100000 in
set_option maxHeartbeats 1000000 in
theorem vis_next (hV : VisOK V) (hW : VisW V w0 t f fi ca rs lim Inv) (hI : Inv s w ρ) (hlim : V.cnt s + V.wk s * 100000000 + 40000000 ≤ lim) (key : Str) (after : Bool) :
    Calls Try.prog 17 #[.pointer (some ⟨t, 0, none⟩), .string key, .bool after, .func (.func f) fi ca] w (VNext V rs Inv s w ρ key after) := by
  obtain ⟨_, _, P, gens, free, D, rt, i, d, r, size, hB, hT⟩ := hW.tree s w ρ hI
  obtain ⟨c0, c1, c2, c3, c4, c5, hq⟩ := hT.cells
  have h00 := hB.ro.bel.size
  have hn := none_ok c1
  have hLf := Lib.hid (vis_leaf hV hW hI hlim key)
  have hWh := Lib.hid hW
  have hVh := Lib.hid hV
  clear hV hW hI hB hT
  go_enter Try.func17, Try.ntmps17
  go_wp2_with fail
  refine hn.mono ?_
  rintro e w1 ⟨rfl, rfl⟩
  go_wp2_with fail
  refine hLf.out.mono ?_
  clear hLf hn
  rintro e w2 ⟨s2, ρ2, hh, lo, n, A, B, qka, qva, qha, qkc, qvc, qhc, rfl, hnf, hQ, hc, hcL, hI2, hR2⟩
  have hq2 := hR2.size
  have hms := (hWh.out.tree s2 w2 ρ2 hI2).2.1
  have hP := hQ.next (after := after) hms hc
  have hz := (hWh.out.ro hI2).far w2.heap.size (Nat.le_refl _)
  have hT0 := heap_alloc_new w2 (.cells #[.bool n.leaf, .slice qka n.keys.length qkc, .slice qva n.vals.length qvc, .slice qha n.kids.length qhc, .string n.high, .bool n.bnd, .int .i64 n.next.1, .int .u64 n.next.2] 89)
  have hst := hWh.out.step hI2 hR2 h00 (S := []) (by simp) (W := w2.alloc (.cells #[.bool n.leaf, .slice qka n.keys.length qkc, .slice qva n.vals.length qvc, .slice qha n.kids.length qhc, .string n.high, .bool n.bnd, .int .i64 n.next.1, .int .u64 n.next.2] 89)) (((Below.refl _ _).alloc (Nat.le_refl _) _)) (Upd.refl _ _)
  have hnf2 := hst.2.2 n qka qva qha qkc qvc qhc hnf
  replace hst := Lib.hid (And.intro hst.1 hst.2.1)
  replace hnf2 := Lib.hid hnf2
  replace hT0 := Lib.hid hT0
  replace hP := Lib.hid hP
  replace hz := Lib.hid hz
  clear hnf hQ hc hI2 hR2 hms
  go_wp2_with fail
  go_loopg [13] (msr V s2 0 B) (fun gk v wr => ∃ (s1 : σ) (ρ1 : Nat → Nat) (h : Hd) (lo : Str) (n : BN) (A B : Lev), ∃ qka qva qha qkc qvc qhc, gk = msr V s1 0 B ∧ V.cnt s1 + gk ≤ lim ∧ v = .bool true ∧ NextP V s key after s1 h lo n A B ∧ NodeF wr ρ1 n qka qva qha qkc qvc qhc ∧ Inv s1 wr ρ1 ∧ RU rs w wr ρ ρ1 ∧ ρ1 w2.heap.size = 0 ∧ wr.heap[w2.heap.size]? = some (.cells #[.bool n.leaf, .slice qka n.keys.length qkc, .slice qva n.vals.length qvc, .slice qha n.kids.length qhc, .string n.high, .bool n.bnd, .int .i64 n.next.1, .int .u64 n.next.2] 89))
  case atStart => exact ⟨s2, ρ2, hh, lo, n, A, B, qka, qva, qha, qkc, qvc, qhc, rfl, Nat.le_trans hcL hlim, rfl, hP.out, hnf2.out, hst.out.1, hst.out.2, hz.out, hT0.out⟩
  case round =>
    clear hT0 hst hnf2 hP hz
    obtain ⟨s1, ρ1, hh1, lo1, n, A1, B1, qka3, qva3, qha3, qkc3, qvc3, qhc3, rfl, hcM, rfl, hP, hnf, hI1, hR1, hr1, hT⟩ := hrel
    obtain ⟨hsn1, _, _⟩ := hWh.out.tree s1 wr ρ1 hI1
    have hlf : n.leaf = true := hP.at'.lf
    have hkx : n.keys.length ≤ 1000 := by have := hsn1.slim 0 _ hP.at'.lev (hh1, n) (by simp); simp only at this; omega
    have hvl := (hP.at'.ok.lf hlf).1
    have hpl : place key after n.keys = cut key n.keys + (if (hasK key n.keys && after) = true then 1 else 0) := by
      unfold place
      cases after
      · simp
      · simp [cutE_eq hP.at'.ok.rise]
    have hple : place key after n.keys ≤ n.keys.length := place_le
    have hF := Lib.hid fun W (hW : Below wr.heap.size wr W) => nFind_any n.leaf qka3 n.keys.length qkc3 qva3 n.vals.length qvc3 qha3 n.kids.length qhc3 n.high n.bnd n.next.1 n.next.2 n.keys key W (hnf.1.1.below hW) rfl
    have hstp := Lib.hid fun W (hb : Below wr.heap.size wr W) => hWh.out.step hI1 hR1 h00 (S := []) (by simp) hb (Upd.refl _ _)
    have hfd : Hid (∀ k v, n.keys[place key after n.keys]? = some k → n.vals[place key after n.keys]? = some v → ∀ W, Below wr.heap.size wr W → VNext V rs Inv s w ρ key after (.returned (nextV (some (k, v)))) W) := Lib.hid fun k v h1 h2 W hb => ⟨s1, ρ1, _, rfl, hP.found hsn1 h1 h2, (hstp.out W hb).1, (hstp.out W hb).2.1⟩
    have hno : Hid (place key after n.keys = n.keys.length → n.bnd = false → ∀ W, Below wr.heap.size wr W → VNext V rs Inv s w ρ key after (.returned (nextV none)) W) := Lib.hid fun h1 h2 W hb => ⟨s1, ρ1, _, rfl, hP.none hsn1 h1 h2, (hstp.out W hb).1, (hstp.out W hb).2.1⟩
    obtain ⟨M, hM⟩ : ∃ M, M = msr V s1 0 B1 := ⟨_, rfl⟩
    have hM1 : 1 ≤ M := by rw [hM]; unfold msr; omega
    have hbq := heap_lt hT
    have hgo : Hid (place key after n.keys = n.keys.length → n.bnd = true → ∀ W, Below wr.heap.size wr W → Calls Try.prog 46 #[.pointer (some ⟨t, 0, none⟩), .agg #[.int .i64 n.next.1, .int .u64 n.next.2], .func (.func f) fi ca] W (VGo V rs Inv s w ρ key after lim w2.heap.size M n.next n.high W)) := Lib.hid fun h1 h2 W hb => by
      obtain ⟨y, A', B', g1, g2, g3, g4⟩ := hP.go hsn1 h1 h2
      obtain ⟨i1, i2, _⟩ := hstp.out W hb
      rw [g1]
      refine (vis_look hVh.out hWh.out i1 (by omega) g2.has).mono ?_
      rintro e W' ⟨s3, ρ3, k1, k2, k3, k4⟩
      obtain ⟨hsn3, _, _⟩ := hWh.out.tree s3 W' ρ3 k2
      have hcn := hVh.out.cnt _ _ k1
      obtain ⟨n', A2, B2, l1, l2, l3⟩ := look_in hVh.out k1 hsn3 g2
      obtain ⟨qka4, qva4, qha4, qkc4, qvc4, qhc4, m1, m2⟩ := k4 n' l1.memF
      have hbW : w2.heap.size < W.heap.size := Nat.lt_of_lt_of_le hbq hb.size
      exact ⟨s3, ρ3, n', A2, B2, _, qka4, qva4, qha4, qkc4, qvc4, qhc4, m1, g4 s3 n' A2 B2 hVh.out k1 hsn3 l1 (fun he => (l3 he).1), rfl, by rw [hM]; exact Nat.lt_of_le_of_lt l2 g3, by omega, m2, k2, i2.trans k3, by rw [k3.role _ hbW]; exact hr1, k3.block _ hbW (by rw [hr1]; exact hWh.out.r0)⟩
    have hks := Lib.hid hnf.1
    replace hM := Lib.hid hM
    clear hP hnf hI1 hR1 hr1 hsn1 hstp
    obtain ⟨lf, K, V, H, hi, bd, nx⟩ := n
    simp only at hF hlf hkx hvl hT hpl hple hfd hno hgo hks
    subst hlf
    obtain ⟨p, hp⟩ : ∃ p, p = place key after K := ⟨_, rfl⟩
    rw [← hp] at hpl hple hfd hno hgo
    obtain ⟨c0, c1, c2, c3, c4, c5, c6, c7⟩ := node_cells _ _ _ _ _ _ _ _ _ _ _ _ _ _ hT
    have hqT := heap_lt hT
    have hcl := cut_le key K
    replace hvl := Lib.hid hvl
    replace hT := Lib.hid hT
    replace hpl := Lib.hid hpl
    clear hp
    generalize hasK key K = hs at *
    go_upto_region 6 with (go_at_call 44; refine (hF.out _ (Below.refl _ _)).mono ?_; rintro e w3 ⟨rfl, hb3⟩)
    have hT3 := Below.heap' hb3 hT.out
    clear hF hT c0 c1 c2 c3 c4 c5 c6 c7 hqT hbq
    obtain ⟨c0, c1, c2, c3, c4, c5, c6, c7⟩ := node_cells _ _ _ _ _ _ _ _ _ _ _ _ _ _ hT3
    have hqT := heap_lt hT3
    replace hT3 := Lib.hid hT3
    replace hb3 := Lib.hid hb3
    have hw1 : IntKind.i64.wrap ((cut key K : Nat) + 1 : Int) = (cut key K : Nat) + 1 := IntWalk.i64_in _ (by omega)
    have he : Hid ((if (hs && after) = true then ((cut key K : Nat) : Int) + 1 else ((cut key K : Nat) : Int)) = (p : Int)) := Lib.hid (by
      have := hpl.out
      split
      · rename_i h
        rw [if_pos h] at this; omega
      · rename_i h
        rw [if_neg h] at this; omega)
    clear hpl hcl
    generalize cut key K = cx at *
    cases hs <;> cases after
    all_goals
      have e1 := he.out
      simp only [Bool.and_self, Bool.and_false, Bool.and_true, Bool.false_eq_true, if_true, if_false] at e1
      rcases Nat.lt_or_ge p K.length with hlt | hge
      · obtain ⟨k, v, hk1, hv1, hz1⟩ := pair_at (i := p) hvl.out hlt
        obtain ⟨b, o, rfl, _, hkc, hkc63, hkat⟩ := hks.out.1.str (by show 0 < K.length; omega)
        obtain ⟨b', o', rfl, _, hvc, hvc63, hvat⟩ := hks.out.2.1.str (by show 0 < V.length; have := hvl.out; omega)
        have g1 := keep hb3.out (hkat _ _ hk1)
        have g2 := keep hb3.out (hvat _ _ hv1)
        have hpv : p < V.length := by have := hvl.out; omega
        have hfd2 := Lib.hid (hfd.out k v hk1 hv1)
        clear hkat hvat hk1 hv1 hz1
        go_wp2_with fail
        go_quiet (fail)
        go_wp2_with fail
        refine bodyPost_ret (v := .tuple #[.string k, .string v, .bool true, .bool false]) (by simp [results, Try.results17, go_sem]) rfl (hfd2.out _ (below_drewN hb3.out _))
      · obtain rfl : p = K.length := by omega
        cases bd with
        | false =>
          go_wp2_with fail
          refine bodyPost_ret (v := .tuple #[.string ⟨#[]⟩, .string ⟨#[]⟩, .bool false, .bool false]) (by simp [results, Try.results17, go_sem]) rfl (hno.out trivial trivial _ hb3.out)
        | true =>
          have hl5 := Lib.hid (hgo.out rfl rfl w3 hb3.out)
          go_wp2_with fail
          refine hl5.out.mono ?_
          clear hl5
          rintro e w5 ⟨s5, ρ5, n5, A5, B5, M5, qka5, qva5, qha5, qkc5, qvc5, qhc5, rfl, q1, q2, q3, q3b, q4, q5, q6, q7, q8⟩
          have hT5 := q8.trans hT3.out
          have y := fun k => frozen_of_heap hT5 k
          obtain ⟨f0, f1, f2, f3, f4, f5, f6, f7⟩ := And.intro (y 0) (And.intro (y 1) (And.intro (y 2) (And.intro (y 3) (And.intro (y 4) (And.intro (y 5) (And.intro (y 6) (y 7)))))))
          clear c0 c1 c2 c3 c4 c5 c6 c7 y
          obtain ⟨c0, c1, c2, c3, c4, c5, c6, c7⟩ := node_cells _ _ _ _ _ _ _ _ _ _ _ _ _ _ hT5
          have hqT5 := heap_lt hT5
          replace hT5 := Lib.hid hT5
          replace q1 := Lib.hid q1
          replace q2 := Lib.hid q2
          replace q3b := Lib.hid q3b
          have q9 := Lib.hid (And.intro q4 (And.intro q5 (And.intro q6 q7)))
          clear q4 q5 q6 q7 q8
          go_wp2_with fail
          go_roundg M5
          case rel =>
            obtain ⟨hst, hus⟩ := node_stored (n2 := n5) (qka2 := qka5) (qva2 := qva5) (qha2 := qha5) (qkc2 := qkc5) (qvc2 := qvc5) (qhc2 := qhc5) hT5.out
            obtain ⟨a1, a2, a3⟩ := hWh.out.step q9.out.2.1 q9.out.2.2.1 h00 (S := [w2.heap.size]) (fun k hk => by simp only [List.mem_singleton] at hk; subst hk; exact ⟨hq2, q9.out.2.2.2⟩) (Below.refl _ _) hus
            exact ⟨s5, ρ5, nx, hi, n5, A5, B5, qka5, qva5, qha5, qkc5, qvc5, qhc5, q2.out, q3b.out, rfl, q1.out, a3 _ _ _ _ _ _ _ q9.out.1, a1, a2, q9.out.2.2.2, hst⟩
          case measure => have := hM.out; omega
end
end Go.Proofs.Ytlhobbfncjjeaaa
