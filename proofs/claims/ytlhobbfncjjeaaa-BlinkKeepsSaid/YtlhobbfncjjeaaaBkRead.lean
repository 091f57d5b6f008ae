/- A reader of a B-link tree whose visits may write: the contracts of look, leaf, Get and Next for any visit function that is as 'VisW' says. -/
import Derived.Test.YtlhobbfncjjeaaaBkReadL
import Derived.Test.YtlhobbfncjjeaaaBkLook
namespace Go.Proofs.Ytlhobbfncjjeaaa
open Go.RowKit
/-- A reader's visits in the world: the tree at block t; the visit function f; what it writes has roles rs. -/
structure VisW {σ : Type} (V : Vis σ) (w0 : World) (t f : Nat) (fi ca : Array Value) (rs : List Nat) (Inv : σ → World → (Nat → Nat) → Prop) : Prop where
  r0 : 0 ∉ rs
  tree : ∀ s W ρ, Inv s W ρ → Sane (V.Ls s) ∧ content (V.Ls s) ∈ V.ms s ∧ ∃ P gens free D rt i d r size, BW w0 W ρ P gens free D ∧ Tr W ρ P D rt i t d (V.Ls s) r size
  own : ∀ s W W' ρ S, Inv s W ρ → Upd S W W' → (∀ k, k ∈ S → k < W.heap.size → w0.heap.size ≤ k ∧ ρ k = 0) → Inv s W' ρ
  enter : ∀ args w, (callFunc f args).run Try.prog w = .ok (.enter f args) w
  call : ∀ s W ρ, Inv s W ρ → Calls Try.prog f (fi ++ ca) W fun e W' => e = .returned (.tuple #[]) ∧ ∃ s' ρ', V.Step s s' ∧ Inv s' W' ρ' ∧ RU rs W W' ρ ρ'
/-- A node's slices, in blocks that nobody writes. -/
def NodeF (W : World) (ρ : Nat → Nat) (n : BN) (qka qva qha : Option Addr) (qkc qvc qhc : Nat) : Prop := NodeAt W n qka qva qha qkc qvc qhc ∧ FR ρ qka n.keys ∧ FR ρ qva n.vals ∧ FR ρ qha n.kids
theorem NodeF.ru {W W' : World} {ρ ρ' : Nat → Nat} {rs : List Nat} (n : BN) (qka qva qha : Option Addr) (qkc qvc qhc : Nat) (h : NodeF W ρ n qka qva qha qkc qvc qhc) (hu : RU rs W W' ρ ρ') (h6 : 6 ∉ rs) : NodeF W' ρ' n qka qva qha qkc qvc qhc := by
  obtain ⟨⟨a1, a2, a3⟩, f1, f2, f3⟩ := h
  obtain ⟨b1, g1⟩ := a1.ru hu f1 h6
  obtain ⟨b2, g2⟩ := a2.ru hu f2 h6
  obtain ⟨b3, g3⟩ := a3.ru hu f3 h6
  exact ⟨⟨b1, b2, b3⟩, g1, g2, g3⟩
theorem RU.own {rs S : List Nat} {w wr wr' : World} {ρ ρ' : Nat → Nat} (h : RU rs w wr ρ ρ') (hu : Upd S wr wr') (hS : ∀ k, k ∈ S → w.heap.size ≤ k) : RU rs w wr' ρ ρ' :=
  ⟨hu.os.trans h.os, hu.tape.trans h.tape, hu.output.trans h.output, Nat.le_trans h.size hu.size, fun k hk hn => (hu.block k (Nat.lt_of_lt_of_le hk h.size) (fun hh => by have := hS k hh; omega)).trans (h.block k hk hn), h.role, fun k hk => h.far k (Nat.le_trans hu.size hk)⟩
theorem nodup_fst {α β : Type} : ∀ {l : List (α × β)}, (l.map (·.1)).Nodup → ∀ {a : α} {b c : β}, (a, b) ∈ l → (a, c) ∈ l → b = c
  | [], _, _, _, _, h, _ => by cases h
  | x :: l, hn, a, b, c, h1, h2 => by
    rw [List.map_cons, List.nodup_cons] at hn
    rcases List.mem_cons.1 h1 with e1 | h1
    · rcases List.mem_cons.1 h2 with e2 | h2
      · rw [← e1] at e2
        injection e2 with _ e2
        exact e2.symm
      · exact absurd (List.mem_map.2 ⟨(a, c), h2, by rw [← e1]⟩) hn.1
    · rcases List.mem_cons.1 h2 with e2 | h2
      · exact absurd (List.mem_map.2 ⟨(a, b), h1, by rw [← e2]⟩) hn.1
      · exact nodup_fst hn.2 h1 h2
section
variable {σ : Type} {V : Vis σ} {w0 : World} {t f : Nat} {fi ca : Array Value} {rs : List Nat} {Inv : σ → World → (Nat → Nat) → Prop} {s : σ} {w : World} {ρ : Nat → Nat}
def VLook (V : Vis σ) (rs : List Nat) (Inv : σ → World → (Nat → Nat) → Prop) (s : σ) (w : World) (ρ : Nat → Nat) (hh : Hd) (e : Ending) (w' : World) : Prop :=
  ∃ s' ρ', V.Step s s' ∧ Inv s' w' ρ' ∧ RU rs w w' ρ ρ' ∧ ∀ n, (hh, n) ∈ (V.Ls s').flatten → ∃ qka qva qha qkc qvc qhc, e = .returned (.tuple #[.agg #[.bool n.leaf, .slice qka n.keys.length qkc, .slice qva n.vals.length qvc, .slice qha n.kids.length qhc, .string n.high, .bool n.bnd, .int .i64 n.next.1, .int .u64 n.next.2], .bool true]) ∧ NodeF w' ρ' n qka qva qha qkc qvc qhc
set_option maxRecDepth 100000 in
theorem vis_look (hV : VisOK V) (hW : VisW V w0 t f fi ca rs Inv) (hI : Inv s w ρ) {j : Nat} {hh : Hd} {lo : Str} (hhas : Has (V.Ls s) j hh lo) :
    Calls Try.prog 46 #[.pointer (some ⟨t, 0, none⟩), .agg #[.int .i64 hh.1, .int .u64 hh.2], .func (.func f) fi ca] w (VLook V rs Inv s w ρ hh) := by
  have hnf : ∀ W, (binOp .neq 1 (.func (.func f) fi ca) .nilFunc).run Try.prog W = .ok (.bool true) W := fun W => by
    simp only [binOp]
    simp [Op.equal, Op.maxDepth, run_equalIn_func_nil W 9999 1 (.func f) fi ca Try.underlying1]
  have hen := hW.enter
  have hro : w0.heap.size ≤ w.heap.size ∧ ρ w.heap.size = 0 ∧ ρ (w.heap.size + 1) = 0 := by
    obtain ⟨_, _, P, gens, free, D, rt, i, d, r, size, hB, _⟩ := hW.tree s w ρ hI
    exact ⟨hB.ro.bel.size, hB.ro.far _ (Nat.le_refl _), hB.ro.far _ (by omega)⟩
  obtain ⟨hro0, hro1, hro2⟩ := hro
  have hown := Lib.hid hW.own
  have hcl := Lib.hid fun W h => hW.call s W ρ h
  have htr := Lib.hid hW.tree
  have hev := Lib.hid fun s' h => (hV.evo s s' h).has hhas
  have hr0 := Lib.hid hW.r0
  replace hI := Lib.hid hI
  clear hV hW hhas
  obtain ⟨h1, h2⟩ := hh
  simp only at hev ⊢
  go_enter Try.func46, Try.ntmps46
  go_upto_region 2 with fail
  obtain ⟨hbx, hby⟩ := heap_two w (.cells #[.int .i64 h1, .int .u64 h2] 70) (.cells #[.bool false, .slice none 0 0, .slice none 0 0, .slice none 0 0, .string ⟨#[]⟩, .bool false, .int .i64 0, .int .u64 0] 89)
  have hB := below_two w (.cells #[.int .i64 h1, .int .u64 h2] 70) (.cells #[.bool false, .slice none 0 0, .slice none 0 0, .slice none 0 0, .string ⟨#[]⟩, .bool false, .int .i64 0, .int .u64 0] 89)
  generalize (w.alloc (.cells #[.int .i64 h1, .int .u64 h2] 70)).alloc (.cells #[.bool false, .slice none 0 0, .slice none 0 0, .slice none 0 0, .string ⟨#[]⟩, .bool false, .int .i64 0, .int .u64 0] 89) = W0 at *
  have hI0 : Inv s W0 ρ := hown.out s w W0 ρ [] hI.out (Upd.of_below (S := []) hB) (by simp)
  have hc0 := Lib.hid (hcl.out W0 hI0)
  have hR0 : Hid (RU rs w W0 ρ ρ) := Lib.hid (by
    obtain ⟨_, _, P, gens, free, D, rt, i, d, r, size, hB0, _⟩ := htr.out s w ρ hI.out
    exact RU.below hB0.ro hB)
  replace hbx := Lib.hid hbx
  replace hby := Lib.hid hby
  clear hcl hI hI0 hB
  go_wp2_with fail
  refine hc0.out.mono ?_
  clear hc0 hen hnf
  rintro e w2 ⟨rfl, s', ρ2, hst, hI2, hR2⟩
  obtain ⟨hsn, _, P, gens, free, D, rt, i, d, r, size, hB2, hT2⟩ := htr.out s' w2 ρ2 hI2
  obtain ⟨n, A, B, hin⟩ := hsn.tow.nodeIn (hev.out s' hst)
  obtain ⟨en, he, e1, e2, qka, qva, qha, qkc, qvc, qhc, e3, e4⟩ := hT2.ent _ hin.memF
  have hq0 : w.heap.size < W0.heap.size := heap_lt hbx.out
  have hq1 : w.heap.size + 1 < W0.heap.size := heap_lt hby.out
  have r1 : ρ2 w.heap.size = 0 := by rw [hR2.role _ hq0]; exact hro1
  have r2 : ρ2 (w.heap.size + 1) = 0 := by rw [hR2.role _ hq1]; exact hro2
  have hbx2 := hR2.heap hbx.out (by rw [hro1]; exact hr0.out)
  have hby2 := hR2.heap hby.out (by rw [hro2]; exact hr0.out)
  obtain ⟨c0, c1, c2, c3, c4, c5, hq⟩ := hT2.cells
  have hG := Lib.hid fun W (hW : Below w2.heap.size w2 W) => (hB2.below hW).get hT2.hd hT2.ta hT2.tc he e1 e2
  have hc := hB2.cellsOf hT2.hd hT2.tc he
  rw [e3] at hc
  have hfin : Hid (∀ W W', Below w2.heap.size w2 W → Upd [w.heap.size + 1] W W' → VLook V rs Inv s w ρ (h1, h2) (.returned (.tuple #[.agg #[.bool n.leaf, .slice qka n.keys.length qkc, .slice qva n.vals.length qvc, .slice qha n.kids.length qhc, .string n.high, .bool n.bnd, .int .i64 n.next.1, .int .u64 n.next.2], .bool true])) W') := Lib.hid (by
    intro W W' hW hu
    have hIW : Inv s' W ρ2 := hown.out _ _ _ _ [] hI2 (Upd.of_below (S := []) hW) (by simp)
    refine ⟨s', ρ2, hst, hown.out _ _ _ _ [w.heap.size + 1] hIW hu (fun k hk _ => ?_), ((hR0.out.trans hR2).own (Upd.of_below (S := []) hW) (by simp)).own hu (by simp), fun n' hn' => ?_⟩
    · simp only [List.mem_singleton] at hk
      subst hk
      exact ⟨by omega, r2⟩
    · have := nodup_fst hT2.nod hn' hin.memF
      subst this
      have hf1 : NodeF w2 ρ2 n' qka qva qha qkc qvc qhc := e4
      have hf2 := NodeF.ru n' qka qva qha qkc qvc qhc hf1 (RU.below (rs := [0]) hB2.ro hW) (by simp)
      exact ⟨qka, qva, qha, qkc, qvc, qhc, rfl, NodeF.ru n' qka qva qha qkc qvc qhc hf2 (RU.upd (rs := [0]) (hB2.below hW).ro hu (fun k hk _ => by simp only [List.mem_singleton] at hk; subst hk; simp [r2])) (by simp)⟩)
  generalize en.blk = q at *
  clear e1 e2 e3 e4 he hin hT2 hB2 hI2 hsn hst hev htr hown hR0 hR2 hbx hby hr0 r1 r2 hro0 hro1 hro2
  simp only at hG hc ⊢
  have k0 : w2.cell? ⟨w.heap.size, 0, none⟩ = some (.int .i64 h1) := by rw [cell_of_heap hbx2]; rfl
  have k1 : w2.cell? ⟨w.heap.size, 1, none⟩ = some (.int .u64 h2) := by rw [cell_of_heap hbx2]; rfl
  have hqx : w.heap.size < w2.heap.size := heap_lt hbx2
  clear c0 c2 c3 c4 c5 hbx2 hq0 hq1
  have hcw := Lib.hid fun W (hW : Below w2.heap.size w2 W) => node_cells1 n qka qva qha qkc qvc qhc (Below.heap' hW hc)
  obtain ⟨lf, K, V, H, hi, bd, nx⟩ := n
  simp only at hcw hfin
  clear hc
  replace hby2 := Lib.hid hby2
  have hB := Below.refl w2.heap.size w2
  have c1' := c1
  clear c1
  go_wp2_with fail
  go_region_with (go_at_call 52; refine (hG.out _ hB.drew).mono ?_; rintro z w1 ⟨rfl, hb1⟩; have hbw := hB.drew.trans (hb1.mono hB.drew.size); obtain ⟨x1, x2, x3, x4, x5, x6, x7, x8⟩ := hcw.out w1 hbw; have hy1 := Below.heap' hb1 hby2.out; have hq1 := heap_lt hy1; have y := fun k => frozen_of_heap hy1 k; obtain ⟨y0, y1, y2, y3, y4, y5, y6, y7⟩ := And.intro (y 0) (And.intro (y 1) (And.intro (y 2) (And.intro (y 3) (And.intro (y 4) (And.intro (y 5) (And.intro (y 6) (y 7))))))); obtain ⟨z0, z1, z2, z3, z4, z5, z6, z7⟩ := node_cells false none 0 0 none 0 0 none 0 0 ⟨#[]⟩ false 0 0 hy1; clear y; replace hbw := Lib.hid hbw; clear hb1 hy1)
  all_goals
    go_wp2_with fail
    refine bodyPost_ret (v := .tuple #[.agg #[.bool lf, .slice qka K.length qkc, .slice qva V.length qvc, .slice qha H.length qhc, .string hi, .bool bd, .int .i64 nx.1, .int .u64 nx.2], .bool true]) (by simp [results, Try.results46, go_sem, z0, z1, z2, z3, z4, z5, z6, z7]) rfl ?_
    refine hfin.out _ _ hbw.out ?_
    iterate 8 refine Upd.setCell ?_ (by simp) _
    exact Upd.refl _ _
end
end Go.Proofs.Ytlhobbfncjjeaaa
