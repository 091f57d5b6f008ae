/- The world of a B-link tree: its pool, its arena, its nodes; no function of package blink in sight. The contracts of a B-link tree's none, Len, look. -/
import Derived.Test.YtlhobbfncjjeaaaBkSplit2
import Derived.Test.YtlhobbfncjjeaaaBGrow
import Derived.Test.YtlhobbfncjjeaaaArs
import Derived.Test.YtlhobbfncjjeaaaArenaOfSNode
import Derived.Test.YtlhobbfncjjeaaaAtomicPtr
import Derived.Deep.CutBlock
import Derived.Deep.DeepCutAuto
namespace Go.Proofs.Ytlhobbfncjjeaaa
open Go.RowKit
/-- What a slice's block must be: nobody writes it (role 6). -/
def FR {α : Type} (ρ : Nat → Nat) (a : Option Addr) (L : List α) : Prop := L ≠ [] → ∀ x, a = some x → ρ x.block = 6
/-- An arena's cells that hold a node. -/
def NodeE (w : World) (ρ : Nat → Nat) (xs : List Value) (n : BN) : Prop :=
  ∃ qka qva qha qkc qvc qhc, xs = [.bool n.leaf, .slice qka n.keys.length qkc, .slice qva n.vals.length qvc, .slice qha n.kids.length qhc, .string n.high, .bool n.bnd, .int .i64 n.next.1, .int .u64 n.next.2] ∧ NodeAt w n qka qva qha qkc qvc qhc ∧ FR ρ qka n.keys ∧ FR ρ qva n.vals ∧ FR ρ qha n.kids
def handles (Ls : List Lev) : List Hd := Ls.flatten.map (·.1)
structure BW (w0 w : World) (ρ : Nat → Nat) (P : Nat × Nat × Nat) (gens : List Int) (free : List Bool) (D : List ArD) : Prop where
  ro : Ro w0 w ρ
  ars : Ars w ρ (some P) gens free D
/-- A tree: its block t, of role rt; its arena's number i. -/
structure Tr (w : World) (ρ : Nat → Nat) (P : Nat × Nat × Nat) (D : List ArD) (rt i t : Nat) (d : ArD) (Ls : List Lev) (r : Hd) (size : Nat) : Prop where
  hd : D[i]? = some d
  ta : d.ta = 125
  tc : d.tc = 130
  rt4 : 4 ≤ rt ∧ rt ≤ 5
  rol : ρ t = rt
  blk : w.heap[t]? = some (.cells #[.pointer (some ⟨P.1, 0, none⟩), .pointer (some ⟨d.A.a, 0, none⟩), .int .i64 r.1, .int .u64 r.2, .int .i64 size, .bool false] 72)
  top : ∃ n, Ls[Ls.length - 1]? = some [(r, n)]
  ent : ∀ x, x ∈ Ls.flatten → ∃ e, e ∈ d.A.L ∧ (e.slot : Int) = x.1.1 ∧ e.gen = x.1.2 ∧ NodeE w ρ e.xs x.2
  nod : (handles Ls).Nodup
  cnt : d.A.L.length = (handles Ls).length
  tow : Tower Ls
  thk : Thick Ls
section
variable {w0 w w' : World} {ρ ρ' : Nat → Nat} {P : Nat × Nat × Nat} {gens : List Int} {free : List Bool} {D : List ArD} {rs : List Nat} {rt i t : Nat} {d : ArD} {Ls : List Lev} {r : Hd} {size : Nat}
theorem At.ru {α : Type} {k : Nat} {f : α → List Value} {a : Option Addr} {c : Nat} {L : List α} (h : At w k f a c L) (hu : RU rs w w' ρ ρ') (hf : FR ρ a L) (h6 : 6 ∉ rs) : At w' k f a c L ∧ FR ρ' a L := by
  obtain ⟨h1, h2, h3⟩ := h
  rcases h3 with ⟨rfl, h3⟩ | ⟨b, o, rfl, h4, h5⟩
  · exact ⟨⟨h1, h2, .inl ⟨rfl, h3⟩⟩, fun _ x hx => by cases hx⟩
  · refine ⟨⟨h1, h2, .inr ⟨b, o, rfl, fun hn => Nat.lt_of_lt_of_le (h4 hn) hu.size, fun i x hx j y hy => ?_⟩⟩, fun hn x hx => ?_⟩
    · have hn : L ≠ [] := by intro e; rw [e] at hx; simp at hx
      have hr := hf hn _ rfl
      rw [World.cell?_of_block (hu.block b (h4 hn) (by rw [hr]; exact h6))]
      exact h5 i x hx j y hy
    · injection hx with hx
      rw [← hx, hu.role b (h4 hn)]
      exact hf hn ⟨b, o, none⟩ rfl
theorem NodeE.ru {xs : List Value} {n : BN} (h : NodeE w ρ xs n) (hu : RU rs w w' ρ ρ') (h6 : 6 ∉ rs) : NodeE w' ρ' xs n := by
  obtain ⟨qka, qva, qha, qkc, qvc, qhc, h1, ⟨a1, a2, a3⟩, f1, f2, f3⟩ := h
  obtain ⟨b1, g1⟩ := a1.ru hu f1 h6
  obtain ⟨b2, g2⟩ := a2.ru hu f2 h6
  obtain ⟨b3, g3⟩ := a3.ru hu f3 h6
  exact ⟨qka, qva, qha, qkc, qvc, qhc, h1, ⟨b1, b2, b3⟩, g1, g2, g3⟩
theorem Tr.ru (h : Tr w ρ P D rt i t d Ls r size) (hu : RU rs w w' ρ ρ') (h6 : 6 ∉ rs) (hr : rt ∉ rs) : Tr w' ρ' P D rt i t d Ls r size :=
  ⟨h.hd, h.ta, h.tc, h.rt4, by rw [hu.role _ (heap_lt h.blk)]; exact h.rol, hu.heap h.blk (by rw [h.rol]; exact hr), h.top, fun x hx => by
    obtain ⟨e, e1, e2, e3, e4⟩ := h.ent x hx
    exact ⟨e, e1, e2, e3, e4.ru hu h6⟩, h.nod, h.cnt, h.tow, h.thk⟩
theorem BW.below (h : BW w0 w ρ P gens free D) (hb : Below w.heap.size w w') : BW w0 w' ρ P gens free D := ⟨h.ro.step (RU.below (rs := []) h.ro hb) (by simp), h.ars.below h.ro hb⟩
theorem Tr.below (h : Tr w ρ P D rt i t d Ls r size) (hB : BW w0 w ρ P gens free D) (hb : Below w.heap.size w w') : Tr w' ρ P D rt i t d Ls r size := h.ru (RU.below (rs := []) hB.ro hb) (by simp) (by simp)
theorem BW.ag (h : BW w0 w ρ P gens free D) (hd : D[i]? = some d) (ta : d.ta = 125) (tc : d.tc = 130) : ANode.AG w [] (some ⟨P.1, 0, none⟩) d.A := by
  have := (h.ars.ar i d hd).g
  rw [ta, tc] at this
  exact this
/-- A node that is alive. -/
theorem BW.get (h : BW w0 w ρ P gens free D) (hd : D[i]? = some d) (ta : d.ta = 125) (tc : d.tc = 130) {e : AEnt} {hh : Hd} (he : e ∈ d.A.L) (h1 : (e.slot : Int) = hh.1) (h2 : e.gen = hh.2) :
    Calls Try.prog 52 #[.pointer (some ⟨d.A.a, 0, none⟩), .agg #[.int .i64 hh.1, .int .u64 hh.2]] w fun x w' => x = .returned (.tuple #[.pointer (some ⟨e.blk, 1, none⟩), .bool true]) ∧ Below w.heap.size w w' :=
  ANode.gGet_some d.A [] _ hh.1 hh.2 e w (h.ag hd ta tc) he h1.symm h2
theorem BW.cellsOf (h : BW w0 w ρ P gens free D) (hd : D[i]? = some d) (tc : d.tc = 130) {e : AEnt} (he : e ∈ d.A.L) : w.heap[e.blk]? = some (.cells (.int .u64 e.gen :: e.xs).toArray 130) := by
  have := ((h.ars.ar i d hd).g.2.2.2.2.2 e he).2
  rw [tc] at this
  exact this
end
end Go.Proofs.Ytlhobbfncjjeaaa
namespace Go.Proofs.Ytlhobbfncjjeaaa
open Go.RowKit
section
variable {w0 w : World} {ρ : Nat → Nat} {P : Nat × Nat × Nat} {gens : List Int} {free : List Bool} {D : List ArD} {rt i t : Nat} {d : ArD} {Ls : List Lev} {r : Hd} {size : Nat}
theorem Tr.cells (h : Tr w ρ P D rt i t d Ls r size) :
    w.cell? ⟨t, 0, none⟩ = some (.pointer (some ⟨P.1, 0, none⟩)) ∧ w.cell? ⟨t, 1, none⟩ = some (.pointer (some ⟨d.A.a, 0, none⟩)) ∧ w.cell? ⟨t, 2, none⟩ = some (.int .i64 r.1) ∧ w.cell? ⟨t, 3, none⟩ = some (.int .u64 r.2) ∧ w.cell? ⟨t, 4, none⟩ = some (.int .i64 size) ∧ w.cell? ⟨t, 5, none⟩ = some (.bool false) ∧ t < w.heap.size := by
  refine ⟨?_, ?_, ?_, ?_, ?_, ?_, heap_lt h.blk⟩ <;> rw [cell_of_heap h.blk] <;> rfl
theorem none_ok {w : World} {t : Nat} {a : Addr} (h : w.cell? ⟨t, 1, none⟩ = some (.pointer (some a))) : Calls Try.prog 42 #[.pointer (some ⟨t, 0, none⟩)] w fun e w' => e = .returned (.bool false) ∧ w = w' := by
  go_enter Try.func42, Try.ntmps42
  go_wp2
  go_ret
  exact ⟨rfl, rfl⟩
theorem none_nil (w : World) : Calls Try.prog 42 #[.pointer none] w fun e w' => e = .returned (.bool true) ∧ w = w' := by
  go_enter Try.func42, Try.ntmps42
  go_wp2
  go_ret
  exact ⟨rfl, rfl⟩
theorem Tr.len (h : Tr w ρ P D rt i t d Ls r size) : Calls Try.prog 24 #[.pointer (some ⟨t, 0, none⟩)] w fun e w' => e = .returned (.int .i64 size) ∧ w = w' := by
  obtain ⟨c0, c1, c2, c3, c4, c5, hq⟩ := h.cells
  have hn := none_ok c1
  go_enter Try.func24, Try.ntmps24
  go_wp2_with fail
  refine hn.mono ?_
  rintro e w1 ⟨rfl, rfl⟩
  go_wp2_with fail
  go_ret
  exact ⟨rfl, rfl⟩
theorem run_neq_nil_nilFunc {P : Program} (w : World) (t : TypeId) {ps rs : Array TypeId} {v : Bool} (h : P.underlying t = some (.func ps rs v)) : (binOp .neq t .nilFunc .nilFunc).run P w = .ok (.bool false) w := by
  simp only [binOp]
  simp [Op.equal, Op.maxDepth, run_equalIn_nil_nilFunc w 9999 t h]
/-- The cells of a node that lies in an arena. -/
theorem node_cells1 {w : World} {q : Nat} {g : Value} {tc : TypeId} (n : BN) (qka qva qha : Option Addr) (qkc qvc qhc : Nat) (h : w.heap[q]? = some (.cells (g :: [.bool n.leaf, .slice qka n.keys.length qkc, .slice qva n.vals.length qvc, .slice qha n.kids.length qhc, .string n.high, .bool n.bnd, .int .i64 n.next.1, .int .u64 n.next.2]).toArray tc)) :
    w.cell? ⟨q, 1, none⟩ = some (.bool n.leaf) ∧ w.cell? ⟨q, 2, none⟩ = some (.slice qka n.keys.length qkc) ∧ w.cell? ⟨q, 3, none⟩ = some (.slice qva n.vals.length qvc) ∧ w.cell? ⟨q, 4, none⟩ = some (.slice qha n.kids.length qhc) ∧
    w.cell? ⟨q, 5, none⟩ = some (.string n.high) ∧ w.cell? ⟨q, 6, none⟩ = some (.bool n.bnd) ∧ w.cell? ⟨q, 7, none⟩ = some (.int .i64 n.next.1) ∧ w.cell? ⟨q, 8, none⟩ = some (.int .u64 n.next.2) := by
  refine ⟨?_, ?_, ?_, ?_, ?_, ?_, ?_, ?_⟩ <;> rw [cell_of_heap h] <;> rfl
/-- What a look at a node that is alive hands back. -/
def LookS (n : BN) (qka qva qha : Option Addr) (qkc qvc qhc : Nat) (w : World) (x : Ending) (w' : World) : Prop := x = .returned (.tuple #[.agg #[.bool n.leaf, .slice qka n.keys.length qkc, .slice qva n.vals.length qvc, .slice qha n.kids.length qhc, .string n.high, .bool n.bnd, .int .i64 n.next.1, .int .u64 n.next.2], .bool true]) ∧ Below w.heap.size w w'
set_option maxRecDepth 100000 in
theorem look_at (hB : BW w0 w ρ P gens free D) (h : Tr w ρ P D rt i t d Ls r size) {e : AEnt} {hh : Hd} (n : BN) (qka qva qha : Option Addr) (qkc qvc qhc : Nat) (he : e ∈ d.A.L) (e1 : (e.slot : Int) = hh.1) (e2 : e.gen = hh.2) (e3 : e.xs = [.bool n.leaf, .slice qka n.keys.length qkc, .slice qva n.vals.length qvc, .slice qha n.kids.length qhc, .string n.high, .bool n.bnd, .int .i64 n.next.1, .int .u64 n.next.2]) :
    Calls Try.prog 46 #[.pointer (some ⟨t, 0, none⟩), .agg #[.int .i64 hh.1, .int .u64 hh.2], .nilFunc] w (LookS n qka qva qha qkc qvc qhc w) := by
  obtain ⟨c0, c1, c2, c3, c4, c5, hq⟩ := h.cells
  have hG := Lib.hid fun W (hW : Below w.heap.size w W) => (hB.below hW).get h.hd h.ta h.tc he e1 e2
  have hc := hB.cellsOf h.hd h.tc he
  rw [e3] at hc
  obtain ⟨h1, h2⟩ := hh
  simp only at hG hc ⊢
  generalize e.blk = q at *
  clear e1 e2 e3 he hB h
  have hnf : ∀ W, (binOp .neq 1 .nilFunc .nilFunc).run Try.prog W = .ok (.bool false) W := fun W => run_neq_nil_nilFunc W 1 Try.underlying1
  go_enter Try.func46, Try.ntmps46
  go_upto_region 3 with fail
  obtain ⟨hbx, hby⟩ := heap_two w (.cells #[.int .i64 h1, .int .u64 h2] 70) (.cells #[.bool false, .slice none 0 0, .slice none 0 0, .slice none 0 0, .string ⟨#[]⟩, .bool false, .int .i64 0, .int .u64 0] 89)
  have hB := below_two w (.cells #[.int .i64 h1, .int .u64 h2] 70) (.cells #[.bool false, .slice none 0 0, .slice none 0 0, .slice none 0 0, .string ⟨#[]⟩, .bool false, .int .i64 0, .int .u64 0] 89)
  generalize (w.alloc (.cells #[.int .i64 h1, .int .u64 h2] 70)).alloc (.cells #[.bool false, .slice none 0 0, .slice none 0 0, .slice none 0 0, .string ⟨#[]⟩, .bool false, .int .i64 0, .int .u64 0] 89) = W0 at *
  have k0 : W0.cell? ⟨w.heap.size, 0, none⟩ = some (.int .i64 h1) := by rw [cell_of_heap hbx]; rfl
  have k1 : W0.cell? ⟨w.heap.size, 1, none⟩ = some (.int .u64 h2) := by rw [cell_of_heap hbx]; rfl
  have c1' := keep hB c1
  have hq0 : w.heap.size < W0.heap.size := heap_lt hbx
  clear c0 c1 c2 c3 c4 c5 hbx
  replace hby := Lib.hid hby
  replace hB := Lib.hid hB
  replace hc := Lib.hid hc
  have hB := hB.out
  have hcw := Lib.hid fun W (hW : Below w.heap.size w W) => node_cells1 n qka qva qha qkc qvc qhc (Below.heap' hW hc.out)
  have hfin : Hid (∀ W W', Below w.heap.size w W → Upd [w.heap.size + 1] W W' → LookS n qka qva qha qkc qvc qhc w (.returned (.tuple #[.agg #[.bool n.leaf, .slice qka n.keys.length qkc, .slice qva n.vals.length qvc, .slice qha n.kids.length qhc, .string n.high, .bool n.bnd, .int .i64 n.next.1, .int .u64 n.next.2], .bool true])) W') := Lib.hid fun W W' hW hu => ⟨rfl, hW.trans (hu.below hW.size (by simp))⟩
  obtain ⟨lf, K, V, H, hi, bd, nx⟩ := n
  simp only at hcw hfin
  clear hc
  go_region_with (go_at_call 52; refine (hG.out _ hB.drew).mono ?_; rintro z w1 ⟨rfl, hb1⟩; have hbw := hB.drew.trans (hb1.mono hB.drew.size); obtain ⟨x1, x2, x3, x4, x5, x6, x7, x8⟩ := hcw.out w1 hbw; have hy1 := Below.heap' hb1 hby.out; have hq1 := heap_lt hy1; have y := fun k => frozen_of_heap hy1 k; obtain ⟨y0, y1, y2, y3, y4, y5, y6, y7⟩ := And.intro (y 0) (And.intro (y 1) (And.intro (y 2) (And.intro (y 3) (And.intro (y 4) (And.intro (y 5) (And.intro (y 6) (y 7))))))); obtain ⟨z0, z1, z2, z3, z4, z5, z6, z7⟩ := node_cells false none 0 0 none 0 0 none 0 0 ⟨#[]⟩ false 0 0 hy1; clear y; replace hbw := Lib.hid hbw; clear hb1 hy1)
  all_goals
    go_wp2_with fail
    refine bodyPost_ret (v := .tuple #[.agg #[.bool lf, .slice qka K.length qkc, .slice qva V.length qvc, .slice qha H.length qhc, .string hi, .bool bd, .int .i64 nx.1, .int .u64 nx.2], .bool true]) (by simp [results, Try.results46, go_sem, z0, z1, z2, z3, z4, z5, z6, z7]) rfl ?_
    refine hfin.out _ _ hbw.out ?_
    iterate 8 refine Upd.setCell ?_ (by simp) _
    exact Upd.refl _ _
/-- A node's slices, and the looks at it in whatever world that came of this one. -/
theorem Tr.look (hB : BW w0 w ρ P gens free D) (h : Tr w ρ P D rt i t d Ls r size) {x : Hd × BN} (hx : x ∈ Ls.flatten) :
    ∃ qka qva qha qkc qvc qhc, NodeAt w x.2 qka qva qha qkc qvc qhc ∧ ∀ W, Below w.heap.size w W → Calls Try.prog 46 #[.pointer (some ⟨t, 0, none⟩), .agg #[.int .i64 x.1.1, .int .u64 x.1.2], .nilFunc] W (LookS x.2 qka qva qha qkc qvc qhc W) := by
  obtain ⟨e, he, e1, e2, qka, qva, qha, qkc, qvc, qhc, e3, e4, _⟩ := h.ent x hx
  exact ⟨qka, qva, qha, qkc, qvc, qhc, e4, fun W hW => look_at (hB.below hW) (h.below hB hW) x.2 qka qva qha qkc qvc qhc he e1 e2 e3⟩
def LookEnd (w : World) (n : BN) (x : Ending) (w' : World) : Prop := ∃ qka qva qha qkc qvc qhc, x = .returned (.tuple #[.agg #[.bool n.leaf, .slice qka n.keys.length qkc, .slice qva n.vals.length qvc, .slice qha n.kids.length qhc, .string n.high, .bool n.bnd, .int .i64 n.next.1, .int .u64 n.next.2], .bool true]) ∧ NodeAt w n qka qva qha qkc qvc qhc ∧ Below w.heap.size w w'
end
end Go.Proofs.Ytlhobbfncjjeaaa
