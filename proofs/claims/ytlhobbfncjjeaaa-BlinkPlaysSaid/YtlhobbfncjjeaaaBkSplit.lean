/- The contract of a node's Split. -/
import Derived.Test.YtlhobbfncjjeaaaBkAdd
import Derived.BigRegion
import Derived.Deep.CutBlock
import Derived.Deep.DeepCutAuto
namespace Go.Proofs.Ytlhobbfncjjeaaa
open Go.RowKit
/-- What a store into a block makes of it. -/
def setO (i : Nat) (v : Value) : Obj → Obj
  | .cells c t fr => .cells (c.setIfInBounds i v) t fr
  | o => o
theorem heap_self {w : World} {b i : Nat} {v : Value} : (w.setCell ⟨b, i, none⟩ v).heap[b]? = (w.heap[b]?).map (setO i v) := by
  cases h : w.heap[b]? with
  | none =>
    simp [World.setCell, Array.getElem?_modify, h]
  | some o =>
    cases o with
    | cells c t fr => rw [heap_set_same h]; rfl
    | _ => simp [World.setCell, Array.getElem?_modify, h, setO]
/-- A slice that begins at one of the elements. -/
theorem at_tail {α : Type} {w : World} {k : Nat} {f : α → List Value} {b o c : Nat} {L : List α} (h : At w k f (some ⟨b, o, none⟩) c L) (i : Nat) (hi : i ≤ L.length) : At w k f (some ⟨b, o + i * k, none⟩) (c - i) (L.drop i) := by
  obtain ⟨h1, h2, h3⟩ := h
  refine ⟨by rw [List.length_drop]; omega, by omega, .inr ⟨b, o + i * k, rfl, fun hn => ?_, fun j x hx q y hy => ?_⟩⟩
  · rcases h3 with ⟨h3, _⟩ | ⟨b', o', e, h4, h5⟩
    · cases h3
    · injection e with e; injection e with e1 e2; subst e1
      exact h4 (by intro e; rw [e] at hn; simp at hn)
  · rcases h3 with ⟨h3, _⟩ | ⟨b', o', e, h4, h5⟩
    · cases h3
    · injection e with e; injection e with e1 e2; subst e1 e2
      rw [List.getElem?_drop] at hx
      have := h5 _ x hx q y hy
      rwa [Nat.add_mul, ← Nat.add_assoc] at this
theorem at_head {α : Type} {w : World} {k : Nat} {f : α → List Value} {b o c : Nat} {L : List α} (h : At w k f (some ⟨b, o, none⟩) c L) (i : Nat) (hi : i ≤ L.length) : At w k f (some ⟨b, o, none⟩) i (L.take i) := by
  obtain ⟨h1, h2, h3⟩ := h
  refine ⟨by rw [List.length_take]; omega, by omega, .inr ?_⟩
  rcases h3 with ⟨h3, _⟩ | ⟨b', o', e, h4, h5⟩
  · cases h3
  · refine ⟨b', o', e, fun hn => h4 (by intro e; rw [e] at hn; simp at hn), fun j x hx q y hy => h5 j x ?_ q y hy⟩
    rw [List.getElem?_take] at hx
    split at hx
    · exact hx
    · cases hx
def Fresh (base : Nat) (a : Option Addr) : Prop := ∀ x, a = some x → base ≤ x.block
def FreshN (base : Nat) (qka qva qha : Option Addr) : Prop := Fresh base qka ∧ Fresh base qva ∧ Fresh base qha
theorem OwnNode.fresh {base : Nat} {w : World} (n : BN) (qka qva qha : Option Addr) (qkc qvc qhc : Nat) (h : OwnNode base w n qka qva qha qkc qvc qhc) : FreshN base qka qva qha := by
  have key : ∀ {α : Type} {e : TypeId} {k : Nat} {f : α → List Value} {a : Option Addr} {c : Nat} {L : List α}, Row base e k f w (.slice a L.length c) L → Fresh base a := by
    intro α e k f a c L hr x hx
    rcases hr.cases with ⟨h1, _⟩ | ⟨b, cap, h1, h2, _⟩
    · injection h1 with h1; rw [h1] at hx; cases hx
    · injection h1 with h1; rw [h1] at hx; injection hx with hx; rw [← hx]; exact h2
  exact ⟨key h.ky, key h.vl, key h.kd⟩
def SEnd (n : BN) (nx : Hd) (w : World) (x : Ending) (w' : World) : Prop :=
  ∃ qka2 qva2 qha2 qkc2 qvc2 qhc2, ∃ qka3 qva3 qha3 qkc3 qvc3 qhc3, ∃ n2 n3 : BN, n2 = n.left nx ∧ n3 = n.rightHalf ∧ x = .returned (.tuple #[.agg #[.bool n2.leaf, .slice qka2 n2.keys.length qkc2, .slice qva2 n2.vals.length qvc2, .slice qha2 n2.kids.length qhc2, .string n2.high, .bool n2.bnd, .int .i64 n2.next.1, .int .u64 n2.next.2], .agg #[.bool n3.leaf, .slice qka3 n3.keys.length qkc3, .slice qva3 n3.vals.length qvc3, .slice qha3 n3.kids.length qhc3, .string n3.high, .bool n3.bnd, .int .i64 n3.next.1, .int .u64 n3.next.2], .string n.sep]) ∧ NodeAt w' n2 qka2 qva2 qha2 qkc2 qvc2 qhc2 ∧ NodeAt w' n3 qka3 qva3 qha3 qkc3 qvc3 qhc3 ∧ FreshN w.heap.size qka2 qva2 qha2 ∧ FreshN w.heap.size qka3 qva3 qha3 ∧ Below w.heap.size w w'
theorem At.upd {α : Type} {w w' : World} {k base : Nat} {f : α → List Value} {a : Option Addr} {c : Nat} {L : List α} {S : List Nat} (h : At w k f a c L) (hu : Upd S w w') (hf : Fresh base a) (hS : ∀ b, b ∈ S → b < base) : At w' k f a c L := by
  obtain ⟨h1, h2, h3⟩ := h
  refine ⟨h1, h2, ?_⟩
  rcases h3 with h3 | ⟨b, o, e, h4, h5⟩
  · exact .inl h3
  · refine .inr ⟨b, o, e, fun hn => Nat.lt_of_lt_of_le (h4 hn) hu.size, fun i x hx j y hy => hu.cell (h5 i x hx j y hy) (fun hh => ?_)⟩
    have h6 : base ≤ b := hf _ e
    have h7 : b < base := hS _ hh
    omega
theorem NodeAt.upd {w w' : World} {base : Nat} {S : List Nat} (n : BN) (qka qva qha : Option Addr) (qkc qvc qhc : Nat) (h : NodeAt w n qka qva qha qkc qvc qhc) (hu : Upd S w w') (hf : FreshN base qka qva qha) (hS : ∀ b, b ∈ S → b < base) : NodeAt w' n qka qva qha qkc qvc qhc :=
  ⟨h.1.upd hu hf.1 hS, h.2.1.upd hu hf.2.1 hS, h.2.2.upd hu hf.2.2 hS⟩
theorem Fresh.mono {b b' : Nat} {a : Option Addr} (h : Fresh b a) (hb : b' ≤ b) : Fresh b' a := fun x hx => Nat.le_trans hb (h x hx)
theorem FreshN.mono {b b' : Nat} {x y z : Option Addr} (h : FreshN b x y z) (hb : b' ≤ b) : FreshN b' x y z := ⟨h.1.mono hb, h.2.1.mono hb, h.2.2.mono hb⟩
theorem Fresh.off {b x o o' : Nat} (h : Fresh b (some ⟨x, o, none⟩)) : Fresh b (some ⟨x, o', none⟩) := fun y hy => by
  injection hy with hy
  rw [← hy]
  exact h ⟨x, o, none⟩ rfl
theorem heap_four (w : World) (o o' o'' o''' : Obj) : ((((w.alloc o).alloc o').alloc o'').alloc o''').heap[w.heap.size]? = some o ∧ ((((w.alloc o).alloc o').alloc o'').alloc o''').heap[w.heap.size + 1]? = some o' ∧ ((((w.alloc o).alloc o').alloc o'').alloc o''').heap[w.heap.size + 1 + 1]? = some o'' ∧ ((((w.alloc o).alloc o').alloc o'').alloc o''').heap[w.heap.size + 1 + 1 + 1]? = some o''' := by
  obtain ⟨h1, h2, h3⟩ := heap_three w o o' o''
  refine ⟨heap_alloc_old _ h1, heap_alloc_old _ h2, heap_alloc_old _ h3, ?_⟩
  have := heap_alloc_new (((w.alloc o).alloc o').alloc o'') o'''
  simpa using this
theorem below_four (w : World) (o o' o'' o''' : Obj) : Below w.heap.size w ((((w.alloc o).alloc o').alloc o'').alloc o''') := (below_three w o o' o'').alloc (by simp; omega) _
/-- The parts of Split's world: the node, the handle, the halves' blocks. -/
structure SW (w0 w : World) (n : BN) (nx : Hd) (n1 : BN) (qka1 qva1 qha1 : Option Addr) (qkc1 qvc1 qhc1 : Nat) (n2 : BN) (qka2 qva2 qha2 : Option Addr) (qkc2 qvc2 qhc2 : Nat) (n3 : BN) (qka3 qva3 qha3 : Option Addr) (qkc3 qvc3 qhc3 : Nat) : Prop where
  bel : Below w0.heap.size w0 w
  bx : w.heap[w0.heap.size]? = some (.cells #[.bool n1.leaf, .slice qka1 n1.keys.length qkc1, .slice qva1 n1.vals.length qvc1, .slice qha1 n1.kids.length qhc1, .string n1.high, .bool n1.bnd, .int .i64 n1.next.1, .int .u64 n1.next.2] 89)
  bh : w.heap[w0.heap.size + 1]? = some (.cells #[.int .i64 nx.1, .int .u64 nx.2] 70)
  bl : w.heap[w0.heap.size + 1 + 1]? = some (.cells #[.bool n2.leaf, .slice qka2 n2.keys.length qkc2, .slice qva2 n2.vals.length qvc2, .slice qha2 n2.kids.length qhc2, .string n2.high, .bool n2.bnd, .int .i64 n2.next.1, .int .u64 n2.next.2] 89)
  br : w.heap[w0.heap.size + 1 + 1 + 1]? = some (.cells #[.bool n3.leaf, .slice qka3 n3.keys.length qkc3, .slice qva3 n3.vals.length qvc3, .slice qha3 n3.kids.length qhc3, .string n3.high, .bool n3.bnd, .int .i64 n3.next.1, .int .u64 n3.next.2] 89)
  n1 : NodeAt w n1 qka1 qva1 qha1 qkc1 qvc1 qhc1
  n2 : NodeAt w n2 qka2 qva2 qha2 qkc2 qvc2 qhc2
  n3 : NodeAt w n3 qka3 qva3 qha3 qkc3 qvc3 qhc3
  f2 : FreshN (w0.heap.size + 4) qka2 qva2 qha2
  f3 : FreshN (w0.heap.size + 4) qka3 qva3 qha3
set_option maxRecDepth 100000 in
set_option maxHeartbeats 1000000 in
theorem nSplit_leaf (n : BN) (qka qva qha : Option Addr) (qkc qvc qhc : Nat) {lo : Str} (h : Hd) (w : World) (ho : NodeOK lo n) (hn : NodeAt w n qka qva qha qkc qvc qhc) (hsm : n.keys.length ≤ 1000) (hl : n.leaf = true) (h2 : 2 ≤ n.keys.length) :
    Calls Try.prog 74 #[.agg #[.bool n.leaf, .slice qka n.keys.length qkc, .slice qva n.vals.length qvc, .slice qha n.kids.length qhc, .string n.high, .bool n.bnd, .int .i64 n.next.1, .int .u64 n.next.2], .agg #[.int .i64 h.1, .int .u64 h.2]] w (SEnd n h w) := by
  have hvl := (ho.lf hl).1
  have hkd := (ho.lf hl).2
  have hC := Lib.hid fun W hW => nClone_ok n qka qva qha qkc qvc qhc W (hn.below n qka qva qha qkc qvc qhc hW) ⟨by omega, by omega, by rw [hkd]; simp⟩
  have hR := Lib.hid fun W hW => nRight_ok n qka qva qha qkc qvc qhc W ho (hn.below n qka qva qha qkc qvc qhc hW) hsm
  have hN := Lib.hid fun W hW => hn.below (w' := W) n qka qva qha qkc qvc qhc hW
  have hsep := sep_at h2
  obtain ⟨nl, hnl⟩ : ∃ nl, nl = n.left h := ⟨_, rfl⟩
  obtain ⟨nr, hnr⟩ : ∃ nr, nr = n.rightHalf := ⟨_, rfl⟩
  obtain ⟨sp, hsp⟩ : ∃ sp, sp = n.sep := ⟨_, rfl⟩
  have hend : Hid (∀ (e : Ending) (W : World), (∃ qka2 qva2 qha2 qkc2 qvc2 qhc2, ∃ qka3 qva3 qha3 qkc3 qvc3 qhc3, e = .returned (.tuple #[.agg #[.bool nl.leaf, .slice qka2 nl.keys.length qkc2, .slice qva2 nl.vals.length qvc2, .slice qha2 nl.kids.length qhc2, .string nl.high, .bool nl.bnd, .int .i64 nl.next.1, .int .u64 nl.next.2], .agg #[.bool nr.leaf, .slice qka3 nr.keys.length qkc3, .slice qva3 nr.vals.length qvc3, .slice qha3 nr.kids.length qhc3, .string nr.high, .bool nr.bnd, .int .i64 nr.next.1, .int .u64 nr.next.2], .string sp]) ∧ NodeAt W nl qka2 qva2 qha2 qkc2 qvc2 qhc2 ∧ NodeAt W nr qka3 qva3 qha3 qkc3 qvc3 qhc3 ∧ FreshN w.heap.size qka2 qva2 qha2 ∧ FreshN w.heap.size qka3 qva3 qha3 ∧ Below w.heap.size w W) → SEnd n h w e W) := Lib.hid (by
    rintro e W ⟨qka2, qva2, qha2, qkc2, qvc2, qhc2, qka3, qva3, qha3, qkc3, qvc3, qhc3, h1, h2, h3, h4, h5, h6⟩
    rw [hsp] at h1
    exact ⟨qka2, qva2, qha2, qkc2, qvc2, qhc2, qka3, qva3, qha3, qkc3, qvc3, qhc3, nl, nr, hnl, hnr, h1, h2, h3, h4, h5, h6⟩)
  rw [← hsp] at hsep
  have hm : n.mid = n.keys.length / 2 := rfl
  clear ho hn
  obtain ⟨lf, K, V, H, hi, bd, nx⟩ := n
  simp only at hC hR hN hl hkd hvl hsm hsep h2 hm ⊢
  subst hl
  replace hkd := Lib.hid hkd
  replace hvl := Lib.hid hvl
  replace hsp := Lib.hid hsp
  obtain ⟨M, hM⟩ : ∃ M, M = K.length / 2 := ⟨_, rfl⟩
  have hdq : (K.length : Int).tdiv 2 = (M : Int) := by rw [Int.tdiv_eq_ediv_of_nonneg (by omega)]; omega
  have hdv : (K.length : Int) / 2 = (M : Int) := by omega
  replace hnl : nl = ⟨true, K.take M, V.take M, H, sp, true, h⟩ := by rw [hnl, hsp.out, hM]; rfl
  replace hnr : nr = ⟨true, K.drop M, V.drop M, H, hi, bd, nx⟩ := by rw [hnr, hM]; rfl
  replace hnl := Lib.hid hnl
  replace hnr := Lib.hid hnr
  rw [hm, ← hM] at hsep
  clear hm
  have hmlt : M < K.length := by omega
  have hm0 : 0 < M := by omega
  replace hM := Lib.hid hM
  go_enter Try.func74, Try.ntmps74
  go_wp2_with fail
  obtain ⟨hbx, hbh, hbl, hbr⟩ := heap_four w (.cells #[.bool true, .slice qka K.length qkc, .slice qva V.length qvc, .slice qha H.length qhc, .string hi, .bool bd, .int .i64 nx.1, .int .u64 nx.2] 89) (.cells #[.int .i64 h.1, .int .u64 h.2] 70) (.cells #[.bool false, .slice none 0 0, .slice none 0 0, .slice none 0 0, .string ⟨#[]⟩, .bool false, .int .i64 0, .int .u64 0] 89) (.cells #[.bool false, .slice none 0 0, .slice none 0 0, .slice none 0 0, .string ⟨#[]⟩, .bool false, .int .i64 0, .int .u64 0] 89)
  have hB := below_four w (.cells #[.bool true, .slice qka K.length qkc, .slice qva V.length qvc, .slice qha H.length qhc, .string hi, .bool bd, .int .i64 nx.1, .int .u64 nx.2] 89) (.cells #[.int .i64 h.1, .int .u64 h.2] 70) (.cells #[.bool false, .slice none 0 0, .slice none 0 0, .slice none 0 0, .string ⟨#[]⟩, .bool false, .int .i64 0, .int .u64 0] 89) (.cells #[.bool false, .slice none 0 0, .slice none 0 0, .slice none 0 0, .string ⟨#[]⟩, .bool false, .int .i64 0, .int .u64 0] 89)
  have hz : ((((w.alloc (.cells #[.bool true, .slice qka K.length qkc, .slice qva V.length qvc, .slice qha H.length qhc, .string hi, .bool bd, .int .i64 nx.1, .int .u64 nx.2] 89)).alloc (.cells #[.int .i64 h.1, .int .u64 h.2] 70)).alloc (.cells #[.bool false, .slice none 0 0, .slice none 0 0, .slice none 0 0, .string ⟨#[]⟩, .bool false, .int .i64 0, .int .u64 0] 89)).alloc (.cells #[.bool false, .slice none 0 0, .slice none 0 0, .slice none 0 0, .string ⟨#[]⟩, .bool false, .int .i64 0, .int .u64 0] 89)).heap.size = w.heap.size + 4 := by simp
  generalize (((w.alloc (.cells #[.bool true, .slice qka K.length qkc, .slice qva V.length qvc, .slice qha H.length qhc, .string hi, .bool bd, .int .i64 nx.1, .int .u64 nx.2] 89)).alloc (.cells #[.int .i64 h.1, .int .u64 h.2] 70)).alloc (.cells #[.bool false, .slice none 0 0, .slice none 0 0, .slice none 0 0, .string ⟨#[]⟩, .bool false, .int .i64 0, .int .u64 0] 89)).alloc (.cells #[.bool false, .slice none 0 0, .slice none 0 0, .slice none 0 0, .string ⟨#[]⟩, .bool false, .int .i64 0, .int .u64 0] 89) = W0 at *
  refine (hC.out _ hB).mono ?_
  rintro e w1 ⟨qka2, qva2, qha2, qkc2, qvc2, qhc2, rfl, hown, hb1⟩
  rw [hz] at hown
  replace hbx := Below.heap' hb1 hbx
  replace hbh := Below.heap' hb1 hbh
  replace hbl := Below.heap' hb1 hbl
  replace hbr := Below.heap' hb1 hbr
  have hB1 := hB.trans (hb1.mono hB.size)
  have hq1 : w.heap.size + 1 + 1 + 1 < w1.heap.size := heap_lt hbr
  have hf2 := hown.fresh
  have hn2 := hown.at
  have y := fun k => frozen_of_heap hbl k
  obtain ⟨f0, f1, f2, f3, f4, f5, f6, f7⟩ := And.intro (y 0) (And.intro (y 1) (And.intro (y 2) (And.intro (y 3) (And.intro (y 4) (And.intro (y 5) (And.intro (y 6) (y 7)))))))
  obtain ⟨d0, d1, d2, d3, d4, d5, d6, d7⟩ := node_cells false none 0 0 none 0 0 none 0 0 ⟨#[]⟩ false 0 0 hbl
  obtain ⟨c0, c1, c2, c3, c4, c5, c6, c7⟩ := node_cells _ _ _ _ _ _ _ _ _ _ _ _ _ _ hbx
  have hq0 : w.heap.size < w1.heap.size := by omega
  have hq2 : w.heap.size + 1 + 1 < w1.heap.size := by omega
  clear y hown hb1 hB hz
  replace hbx := Lib.hid hbx
  replace hbh := Lib.hid hbh
  replace hbl := Lib.hid hbl
  replace hbr := Lib.hid hbr
  replace hf2 := Lib.hid hf2
  replace hn2 := Lib.hid hn2
  replace hB1 := Lib.hid hB1
  go_wp2_with fail
  obtain ⟨W2, hW2⟩ : ∃ W2, W2 = (World.setCell (World.setCell (World.setCell (World.setCell (World.setCell (World.setCell (World.setCell (World.setCell w1 ⟨w.heap.size + 1 + 1, 0, none⟩ (.bool true)) ⟨w.heap.size + 1 + 1, 1, none⟩ (.slice qka2 K.length qkc2)) ⟨w.heap.size + 1 + 1, 2, none⟩ (.slice qva2 V.length qvc2)) ⟨w.heap.size + 1 + 1, 3, none⟩ (.slice qha2 H.length qhc2)) ⟨w.heap.size + 1 + 1, 4, none⟩ (.string hi)) ⟨w.heap.size + 1 + 1, 5, none⟩ (.bool bd)) ⟨w.heap.size + 1 + 1, 6, none⟩ (.int .i64 nx.1)) ⟨w.heap.size + 1 + 1, 7, none⟩ (.int .u64 nx.2)) := ⟨_, rfl⟩
  rw [← hW2]
  obtain ⟨hst, hus⟩ := node_stored (n2 := ⟨true, K, V, H, hi, bd, nx⟩) (qka2 := qka2) (qva2 := qva2) (qha2 := qha2) (qkc2 := qkc2) (qvc2 := qvc2) (qhc2 := qhc2) hbl.out
  have hst2 : W2.heap[w.heap.size + 1 + 1]? = some (.cells #[.bool true, .slice qka2 K.length qkc2, .slice qva2 V.length qvc2, .slice qha2 H.length qhc2, .string hi, .bool bd, .int .i64 nx.1, .int .u64 nx.2] 89) := by rw [hW2]; exact hst
  have hus2 : Upd [w.heap.size + 1 + 1] w1 W2 := by rw [hW2]; exact hus
  replace hbx := hus2.heap hbx.out (by simp <;> omega)
  replace hbh := hus2.heap hbh.out (by simp)
  replace hbr := hus2.heap hbr.out (by simp)
  have hB2 : Below w.heap.size w W2 := hB1.out.trans (hus2.below hB1.out.size (by simp <;> omega))
  replace hn2 := hn2.out.upd _ _ _ _ _ _ _ hus2 hf2.out (by simp <;> omega)
  clear hst hus hus2 hB1 hbl hW2 c0 c1 c2 c3 c4 c5 c6 c7 d0 d1 d2 d3 d4 d5 d6 d7 f0 f1 f2 f3 f4 f5 f6 f7 hq0 hq1 hq2
  refine (hR.out _ hB2).mono ?_
  clear hR
  rintro e w3 ⟨rfl, hb3⟩
  replace hbx := Below.heap' hb3 hbx
  replace hbh := Below.heap' hb3 hbh
  have hbl := Below.heap' hb3 hst2
  replace hbr := Below.heap' hb3 hbr
  replace hn2 := hn2.below _ _ _ _ _ _ _ hb3
  have hB3 := hB2.trans (hb3.mono hB2.size)
  obtain ⟨c0, c1, c2, c3, c4, c5, c6, c7⟩ := node_cells _ _ _ _ _ _ _ _ _ _ _ _ _ _ hbx
  have hq0 : w.heap.size < w3.heap.size := heap_lt hbx
  have g2 : ¬ (K.length : Int) < 2 := by omega
  clear hb3 hB2 hst2
  replace hbx := Lib.hid hbx
  replace hbh := Lib.hid hbh
  replace hbl := Lib.hid hbl
  replace hbr := Lib.hid hbr
  replace hn2 := Lib.hid hn2
  replace hB3 := Lib.hid hB3
  go_wp2_with fail
  refine (hC.out _ hB3.out).mono ?_
  clear hC
  rintro e w4 ⟨qka3, qva3, qha3, qkc3, qvc3, qhc3, rfl, hown, hb4⟩
  have hz3 : w.heap.size + 4 ≤ w3.heap.size := heap_lt hbr.out
  replace hbx := Below.heap' hb4 hbx.out
  replace hbh := Below.heap' hb4 hbh.out
  replace hbl := Below.heap' hb4 hbl.out
  replace hbr := Below.heap' hb4 hbr.out
  replace hn2 := hn2.out.below _ _ _ _ _ _ _ hb4
  have hB4 := hB3.out.trans (hb4.mono hB3.out.size)
  have hf3 := hown.fresh.mono hz3
  have hn3 := hown.at
  clear hown hb4 hB3 hz3 c0 c1 c2 c3 c4 c5 c6 c7 hq0
  have y := fun k => frozen_of_heap hbr k
  obtain ⟨f0, f1, f2, f3, f4, f5, f6, f7⟩ := And.intro (y 0) (And.intro (y 1) (And.intro (y 2) (And.intro (y 3) (And.intro (y 4) (And.intro (y 5) (And.intro (y 6) (y 7)))))))
  obtain ⟨d0, d1, d2, d3, d4, d5, d6, d7⟩ := node_cells false none 0 0 none 0 0 none 0 0 ⟨#[]⟩ false 0 0 hbr
  obtain ⟨c0, c1, c2, c3, c4, c5, c6, c7⟩ := node_cells _ _ _ _ _ _ _ _ _ _ _ _ _ _ hbx
  have hq1 : w.heap.size + 1 + 1 + 1 < w4.heap.size := heap_lt hbr
  have hq0 : w.heap.size < w4.heap.size := by omega
  have hq2 : w.heap.size + 1 + 1 < w4.heap.size := by omega
  clear y
  -- the key that parts
  have hat : ∃ b o, qka = some ⟨b, o, none⟩ ∧ b < w.heap.size ∧ K.length ≤ qkc ∧ qkc ≤ 9223372036854775807 ∧ w.cell? ⟨b, o + M, none⟩ = some (.string sp) := by
    obtain ⟨b, o, h3, h4, h5, h6, h7⟩ := (hN.out w (Below.refl _ _)).1.str (by show 0 < K.length; omega)
    exact ⟨b, o, h3, h4, h5, h6, h7 _ _ hsep⟩
  obtain ⟨b, o, rfl, hbw, hkc, hkc63, hcell⟩ := hat
  have hcell4 := keep hB4 hcell
  replace hbx := Lib.hid hbx
  replace hbh := Lib.hid hbh
  replace hbl := Lib.hid hbl
  replace hbr := Lib.hid hbr
  replace hn2 := Lib.hid hn2
  replace hn3 := Lib.hid hn3
  replace hf3 := Lib.hid hf3
  replace hB4 := Lib.hid hB4
  replace hsep := Lib.hid hsep
  have hmvl : M < V.length := by rw [hvl.out]; exact hmlt
  have hk2 := hn2.out.1.1
  have hk263 := hn2.out.1.2.1
  have hv2 := hn2.out.2.1.1
  have hv263 := hn2.out.2.1.2.1
  have hk3 := hn3.out.1.1
  have hk363 := hn3.out.1.2.1
  have hv3 := hn3.out.2.1.1
  have hv363 := hn3.out.2.1.2.1
  go_upto_region 8 with fail
  obtain ⟨W5, hW5⟩ : ∃ W5, W5 = (World.setCell (World.setCell (World.setCell (World.setCell (World.setCell (World.setCell (World.setCell (World.setCell w4 ⟨w.heap.size + 1 + 1 + 1, 0, none⟩ (.bool true)) ⟨w.heap.size + 1 + 1 + 1, 1, none⟩ (.slice qka3 K.length qkc3)) ⟨w.heap.size + 1 + 1 + 1, 2, none⟩ (.slice qva3 V.length qvc3)) ⟨w.heap.size + 1 + 1 + 1, 3, none⟩ (.slice qha3 H.length qhc3)) ⟨w.heap.size + 1 + 1 + 1, 4, none⟩ (.string hi)) ⟨w.heap.size + 1 + 1 + 1, 5, none⟩ (.bool bd)) ⟨w.heap.size + 1 + 1 + 1, 6, none⟩ (.int .i64 nx.1)) ⟨w.heap.size + 1 + 1 + 1, 7, none⟩ (.int .u64 nx.2)) := ⟨_, rfl⟩
  rw [← hW5]
  obtain ⟨hst, hus⟩ := node_stored (n2 := ⟨true, K, V, H, hi, bd, nx⟩) (qka2 := qka3) (qva2 := qva3) (qha2 := qha3) (qkc2 := qkc3) (qvc2 := qvc3) (qhc2 := qhc3) hbr.out
  rw [show World.setCell _ _ _ = W5 from hW5.symm] at hst hus
  have hSW : SW w W5 ⟨true, K, V, H, hi, bd, nx⟩ h ⟨true, K, V, H, hi, bd, nx⟩ (some ⟨b, o, none⟩) qva qha qkc qvc qhc ⟨true, K, V, H, hi, bd, nx⟩ qka2 qva2 qha2 qkc2 qvc2 qhc2 ⟨true, K, V, H, hi, bd, nx⟩ qka3 qva3 qha3 qkc3 qvc3 qhc3 := by
    have hB5 := hB4.out.trans (hus.below hB4.out.size (by simp <;> omega))
    exact ⟨hB5, hus.heap hbx.out (by simp <;> omega), hus.heap hbh.out (by simp), hus.heap hbl.out (by simp), hst, hN.out W5 hB5, hn2.out.upd _ _ _ _ _ _ _ hus hf2.out (by simp <;> omega), hn3.out.upd _ _ _ _ _ _ _ hus hf3.out (by simp <;> omega), hf2.out, hf3.out⟩
  have hcell5 : W5.cell? ⟨b, o + M, none⟩ = some (.string sp) := hus.cell hcell4 (by simp <;> omega)
  clear hst hus hW5 hbx hbh hbl hbr hn2 hn3 hf2 hf3 hB4 hcell4 hcell hN c0 c1 c2 c3 c4 c5 c6 c7 d0 d1 d2 d3 d4 d5 d6 d7 f0 f1 f2 f3 f4 f5 f6 f7 hq0 hq1 hq2
  have hq1 : w.heap.size + 1 + 1 + 1 < W5.heap.size := heap_lt hSW.br
  have hq0 : w.heap.size < W5.heap.size := by omega
  have hq2 : w.heap.size + 1 + 1 < W5.heap.size := by omega
  obtain ⟨c0, c1, c2, c3, c4, c5, c6, c7⟩ := node_cells _ _ _ _ _ _ _ _ _ _ _ _ _ _ hSW.bx
  obtain ⟨d0, d1, d2, d3, d4, d5, d6, d7⟩ := node_cells _ _ _ _ _ _ _ _ _ _ _ _ _ _ hSW.bl
  obtain ⟨e0, e1, e2, e3, e4, e5, e6, e7⟩ := node_cells _ _ _ _ _ _ _ _ _ _ _ _ _ _ hSW.br
  have f1 : W5.frozen? ⟨w.heap.size + 1 + 1, 1, none⟩ = false := frozen_of_heap hSW.bl _
  have f2 : W5.frozen? ⟨w.heap.size + 1 + 1, 2, none⟩ = false := frozen_of_heap hSW.bl _
  have g1 : W5.frozen? ⟨w.heap.size + 1 + 1 + 1, 1, none⟩ = false := frozen_of_heap hSW.br _
  have g2' : W5.frozen? ⟨w.heap.size + 1 + 1 + 1, 2, none⟩ = false := frozen_of_heap hSW.br _
  replace hSW := Lib.hid hSW
  obtain ⟨b2, o2, rfl, _⟩ := hSW.out.n2.1.str (by show 0 < K.length; omega)
  obtain ⟨v2, p2, rfl, _⟩ := hSW.out.n2.2.1.str (by show 0 < V.length; omega)
  obtain ⟨b3, o3, rfl, _⟩ := hSW.out.n3.1.str (by show 0 < K.length; omega)
  obtain ⟨v3, p3, rfl, _⟩ := hSW.out.n3.2.1.str (by show 0 < V.length; omega)
  have g3 : M ≤ qkc2 := by omega
  have g4 : M ≤ qvc2 := by omega
  have g5 : M ≤ K.length := by omega
  have g6 : M ≤ V.length := by omega
  have g7 : ¬ qkc3 = M := by omega
  have g8 : ¬ qvc3 = M := by omega
  go_upto_region 13 with fail
  obtain ⟨W6, hW6⟩ : ∃ W6, W6 = (W5.setCell ⟨w.heap.size + 1 + 1, 1, none⟩ (.slice (some ⟨b2, o2, none⟩) M M)).setCell ⟨w.heap.size + 1 + 1, 2, none⟩ (.slice (some ⟨v2, p2, none⟩) M M) := ⟨_, rfl⟩
  rw [← hW6]
  have hU6 : Upd [w.heap.size + 1 + 1, w.heap.size + 1 + 1 + 1] W5 W6 := by
    rw [hW6]
    iterate 2 refine Upd.setCell ?_ (by simp) _
    exact Upd.refl _ _
  have hl6 : W6.heap[w.heap.size + 1 + 1]? = some (.cells #[.bool true, .slice (some ⟨b2, o2, none⟩) M M, .slice (some ⟨v2, p2, none⟩) M M, .slice qha2 H.length qhc2, .string hi, .bool bd, .int .i64 nx.1, .int .u64 nx.2] 89) := by
    rw [hW6, heap_self, heap_self, hSW.out.bl]
    rfl
  have hr6 : W6.heap[w.heap.size + 1 + 1 + 1]? = some (.cells #[.bool true, .slice (some ⟨b3, o3, none⟩) K.length qkc3, .slice (some ⟨v3, p3, none⟩) V.length qvc3, .slice qha3 H.length qhc3, .string hi, .bool bd, .int .i64 nx.1, .int .u64 nx.2] 89) := by
    rw [hW6, heap_set_other _ _ (by simp), heap_set_other _ _ (by simp)]
    exact hSW.out.br
  clear hW6 c0 c1 c2 c3 c4 c5 c6 c7 d0 d1 d2 d3 d4 d5 d6 d7 e0 e1 e2 e3 e4 e5 e6 e7 f1 f2 g1 g2' hcell5 hq0 hq1 hq2
  obtain ⟨e0, e1, e2, e3, e4, e5, e6, e7⟩ := node_cells _ _ _ _ _ _ _ _ _ _ _ _ _ _ hr6
  have f1 : W6.frozen? ⟨w.heap.size + 1 + 1 + 1, 1, none⟩ = false := frozen_of_heap hr6 _
  have f2 : W6.frozen? ⟨w.heap.size + 1 + 1 + 1, 2, none⟩ = false := frozen_of_heap hr6 _
  have hq1 : w.heap.size + 1 + 1 + 1 < W6.heap.size := heap_lt hr6
  replace hl6 := Lib.hid hl6
  replace hr6 := Lib.hid hr6
  replace hU6 := Lib.hid hU6
  have i1 : (0 : Int) ≤ (M : Int) := by omega
  have i2 : (M : Int) ≤ (K.length : Int) := by omega
  have i3 : (M : Int) ≤ (V.length : Int) := by omega
  go_cut [6] (fun v wx => v = .string sp ∧ Upd [w.heap.size + 1 + 1, w.heap.size + 1 + 1 + 1] W5 wx ∧ wx.heap[w.heap.size + 1 + 1]? = some (.cells #[.bool true, .slice (some ⟨b2, o2, none⟩) M M, .slice (some ⟨v2, p2, none⟩) M M, .slice qha2 H.length qhc2, .string hi, .bool bd, .int .i64 nx.1, .int .u64 nx.2] 89) ∧
    wx.heap[w.heap.size + 1 + 1 + 1]? = some (.cells #[.bool true, .slice (some ⟨b3, o3 + M, none⟩) (K.length - M) (qkc3 - M), .slice (some ⟨v3, p3 + M, none⟩) (V.length - M) (qvc3 - M), .slice qha3 H.length qhc3, .string hi, .bool bd, .int .i64 nx.1, .int .u64 nx.2] 89))
  case first =>
    go_region
    all_goals
      go_wp2_with fail
      go_meet
      refine ⟨rfl, Upd.drew ?_, ?_, ?_⟩
      · iterate 2 refine Upd.setCell ?_ (by simp) _
        exact hU6.out
      · change (World.setCell (World.setCell _ _ _) _ _).heap[_]? = _
        rw [heap_set_other _ _ (by simp), heap_set_other _ _ (by simp)]
        exact hl6.out
      · change (World.setCell (World.setCell _ _ _) _ _).heap[_]? = _
        rw [heap_self, heap_self, hr6.out]
        rfl
  case rest =>
    obtain ⟨rfl, hU7, hl7, hr7⟩ := hcut
    clear hU6 hl6 hr6 e0 e1 e2 e3 e4 e5 e6 e7 f1 f2 hq1
    have hbh := hU7.heap hSW.out.bh (by simp <;> omega)
    have c0 : wc.cell? ⟨w.heap.size + 1, 0, none⟩ = some (.int .i64 h.1) := by rw [cell_of_heap hbh]; rfl
    have c1 : wc.cell? ⟨w.heap.size + 1, 1, none⟩ = some (.int .u64 h.2) := by rw [cell_of_heap hbh]; rfl
    have y := fun k => frozen_of_heap hl7 k
    obtain ⟨f4, f5, f6, f7⟩ := And.intro (y 4) (And.intro (y 5) (And.intro (y 6) (y 7)))
    obtain ⟨d0, d1, d2, d3, d4, d5, d6, d7⟩ := node_cells _ _ _ _ _ _ _ _ _ _ _ _ _ _ hl7
    have hq1 : w.heap.size + 1 + 1 + 1 < wc.heap.size := heap_lt hr7
    have hq2 : w.heap.size + 1 + 1 < wc.heap.size := by omega
    have hq0 : w.heap.size + 1 < wc.heap.size := by omega
    clear y
    replace hU7 := Lib.hid hU7
    replace hl7 := Lib.hid hl7
    replace hr7 := Lib.hid hr7
    replace hbh := Lib.hid hbh
    go_upto_region 16 with fail
    go_cut [6] (fun v wx => v = .string sp ∧ Upd [w.heap.size + 1 + 1, w.heap.size + 1 + 1 + 1] W5 wx ∧ wx.heap[w.heap.size + 1 + 1]? = some (.cells #[.bool true, .slice (some ⟨b2, o2, none⟩) M M, .slice (some ⟨v2, p2, none⟩) M M, .slice qha2 H.length qhc2, .string sp, .bool true, .int .i64 h.1, .int .u64 h.2] 89) ∧ wx.heap[w.heap.size + 1 + 1 + 1]? = some (.cells #[.bool true, .slice (some ⟨b3, o3 + M, none⟩) (K.length - M) (qkc3 - M), .slice (some ⟨v3, p3 + M, none⟩) (V.length - M) (qvc3 - M), .slice qha3 H.length qhc3, .string hi, .bool bd, .int .i64 nx.1, .int .u64 nx.2] 89))
    case first =>
      go_region
      all_goals
        go_wp2_with fail
        go_meet
        refine ⟨rfl, Upd.drew ?_, ?_, ?_⟩
        · iterate 4 refine Upd.setCell ?_ (by simp) _
          exact hU7.out
        · change (World.setCell (World.setCell (World.setCell (World.setCell _ _ _) _ _) _ _) _ _).heap[_]? = _
          rw [heap_self, heap_self, heap_self, heap_self, hl7.out]
          rfl
        · change (World.setCell (World.setCell (World.setCell (World.setCell _ _ _) _ _) _ _) _ _).heap[_]? = _
          rw [heap_set_other _ _ (by simp), heap_set_other _ _ (by simp), heap_set_other _ _ (by simp), heap_set_other _ _ (by simp)]
          exact hr7.out
    case rest =>
      obtain ⟨rfl, hU8, hl8, hr8⟩ := hcut
      clear hU7 hl7 hr7 hbh c0 c1 f4 f5 f6 f7 d0 d1 d2 d3 d4 d5 d6 d7 hq0 hq1 hq2
      have y := fun k => frozen_of_heap hl8 k
      obtain ⟨f0, f1, f2, f3, f4, f5, f6, f7⟩ := And.intro (y 0) (And.intro (y 1) (And.intro (y 2) (And.intro (y 3) (And.intro (y 4) (And.intro (y 5) (And.intro (y 6) (y 7)))))))
      have z := fun k => frozen_of_heap hr8 k
      obtain ⟨z0, z1, z2, z3, z4, z5, z6, z7⟩ := And.intro (z 0) (And.intro (z 1) (And.intro (z 2) (And.intro (z 3) (And.intro (z 4) (And.intro (z 5) (And.intro (z 6) (z 7)))))))
      obtain ⟨d0, d1, d2, d3, d4, d5, d6, d7⟩ := node_cells _ _ _ _ _ _ _ _ _ _ _ _ _ _ hl8
      obtain ⟨e0, e1, e2, e3, e4, e5, e6, e7⟩ := node_cells _ _ _ _ _ _ _ _ _ _ _ _ _ _ hr8
      have hfin : Hid (∀ W', Upd [w.heap.size + 1 + 1, w.heap.size + 1 + 1 + 1] W5 W' → SEnd ⟨true, K, V, H, hi, bd, nx⟩ h w (.returned (.tuple #[.agg #[.bool true, .slice (some ⟨b2, o2, none⟩) M M, .slice (some ⟨v2, p2, none⟩) M M, .slice qha2 H.length qhc2, .string sp, .bool true, .int .i64 h.1, .int .u64 h.2], .agg #[.bool true, .slice (some ⟨b3, o3 + M, none⟩) (K.length - M) (qkc3 - M), .slice (some ⟨v3, p3 + M, none⟩) (V.length - M) (qvc3 - M), .slice qha3 H.length qhc3, .string hi, .bool bd, .int .i64 nx.1, .int .u64 nx.2], .string sp])) W') := Lib.hid (fun W' hu => by
        have hlt : ∀ x, x ∈ [w.heap.size + 1 + 1, w.heap.size + 1 + 1 + 1] → x < w.heap.size + 4 := by simp <;> omega
        have a2 := hSW.out.n2.upd _ _ _ _ _ _ _ hu hSW.out.f2 hlt
        have a3 := hSW.out.n3.upd _ _ _ _ _ _ _ hu hSW.out.f3 hlt
        refine hend.out _ _ ⟨some ⟨b2, o2, none⟩, some ⟨v2, p2, none⟩, qha2, M, M, qhc2, some ⟨b3, o3 + M, none⟩, some ⟨v3, p3 + M, none⟩, qha3, qkc3 - M, qvc3 - M, qhc3, ?_, ?_, ?_, hSW.out.f2.mono (Nat.le_add_right _ 4), ⟨hSW.out.f3.1.off.mono (Nat.le_add_right _ 4), hSW.out.f3.2.1.off.mono (Nat.le_add_right _ 4), hSW.out.f3.2.2.mono (Nat.le_add_right _ 4)⟩, hSW.out.bel.trans (hu.below hSW.out.bel.size (by simp <;> omega))⟩
        · rw [hnl.out, hnr.out]
          simp only [List.length_take, List.length_drop, Nat.min_eq_left g5, Nat.min_eq_left g6]
        · rw [hnl.out]
          exact ⟨at_head a2.1 M g5, at_head a2.2.1 M g6, a2.2.2⟩
        · rw [hnr.out]
          have t1 := at_tail a3.1 M g5
          have t2 := at_tail a3.2.1 M g6
          rw [Nat.mul_one] at t1 t2
          exact ⟨t1, t2, a3.2.2⟩)
      have hq1 : w.heap.size + 1 + 1 + 1 < wc.heap.size := heap_lt hr8
      have hq2 : w.heap.size + 1 + 1 < wc.heap.size := by omega
      clear y z
      replace hU8 := Lib.hid hU8
      replace hl8 := Lib.hid hl8
      replace hr8 := Lib.hid hr8
      go_wp2_with fail
      go_region
      all_goals
        go_wp2_with fail
        refine bodyPost_ret (v := .tuple #[.agg #[.bool true, .slice (some ⟨b2, o2, none⟩) M M, .slice (some ⟨v2, p2, none⟩) M M, .slice qha2 H.length qhc2, .string sp, .bool true, .int .i64 h.1, .int .u64 h.2], .agg #[.bool true, .slice (some ⟨b3, o3 + M, none⟩) (K.length - M) (qkc3 - M), .slice (some ⟨v3, p3 + M, none⟩) (V.length - M) (qvc3 - M), .slice qha3 H.length qhc3, .string hi, .bool bd, .int .i64 nx.1, .int .u64 nx.2], .string sp]) (by simp [results, Try.results74, go_sem, d0, d1, d2, d3, d4, d5, d6, d7, e0, e1, e2, e3, e4, e5, e6, e7]) rfl ?_
        refine hfin.out _ ?_
        refine Upd.drew ?_
        iterate 16 refine Upd.setCell ?_ (by simp) _
        exact hU8.out
end Go.Proofs.Ytlhobbfncjjeaaa
