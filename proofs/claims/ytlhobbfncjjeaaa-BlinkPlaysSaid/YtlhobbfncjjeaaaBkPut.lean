/- A node that is built: the node that came in, boxed, the one that goes out, in slices of its own. The contract of a node's Put. -/
import Derived.Test.YtlhobbfncjjeaaaBkClone
import Derived.Test.YtlhobbfncjjeaaaInsertOfStr
import Derived.Test.YtlhobbfncjjeaaaInsertOfHd
import Derived.Test.YtlhobbfncjjeaaaDelStr
import Derived.Test.YtlhobbfncjjeaaaRowSet
namespace Go.Proofs.Ytlhobbfncjjeaaa
open Go.RowKit
theorem OwnNode.below {base : Nat} {w w' : World} (n : BN) (qka qva qha : Option Addr) (qkc qvc qhc : Nat) (h : OwnNode base w n qka qva qha qkc qvc qhc) (hb : Below w.heap.size w w') : OwnNode base w' n qka qva qha qkc qvc qhc := ⟨h.ky.below hb, h.vl.below hb, h.kd.below hb, h.kv, h.kh, h.vh⟩
theorem OwnNode.upd {base : Nat} {w w' : World} {S : List Nat} (n : BN) (qka qva qha : Option Addr) (qkc qvc qhc : Nat) (h : OwnNode base w n qka qva qha qkc qvc qhc) (hu : Upd S w w') (hS : ∀ k, k ∈ S → k < base) : OwnNode base w' n qka qva qha qkc qvc qhc :=
  ⟨h.ky.upd hu (fun b hb hh => by have := (h.ky.lt b hb).1; have := hS b hh; omega), h.vl.upd hu (fun b hb hh => by have := (h.vl.lt b hb).1; have := hS b hh; omega), h.kd.upd hu (fun b hb hh => by have := (h.kd.lt b hb).1; have := hS b hh; omega), h.kv, h.kh, h.vh⟩
theorem OwnNode.rebase {base base' : Nat} {w : World} (n : BN) (qka qva qha : Option Addr) (qkc qvc qhc : Nat) (h : OwnNode base w n qka qva qha qkc qvc qhc) (hb : base' ≤ base) : OwnNode base' w n qka qva qha qkc qvc qhc :=
  ⟨h.ky.rebase (fun b hq => by have := (h.ky.lt b hq).1; omega), h.vl.rebase (fun b hq => by have := (h.vl.lt b hq).1; omega), h.kd.rebase (fun b hq => by have := (h.kd.lt b hq).1; omega), h.kv, h.kh, h.vh⟩
/-- w0: ahead of the call; the node n1 that came in lies in the first block behind w0's, the one that goes out, n2, in the second. -/
structure PS (w0 w : World) (n1 : BN) (qka1 qva1 qha1 : Option Addr) (qkc1 qvc1 qhc1 : Nat) (n2 : BN) (qka2 qva2 qha2 : Option Addr) (qkc2 qvc2 qhc2 : Nat) : Prop where
  bel : Below w0.heap.size w0 w
  bx : w.heap[w0.heap.size]? = some (.cells #[.bool n1.leaf, .slice qka1 n1.keys.length qkc1, .slice qva1 n1.vals.length qvc1, .slice qha1 n1.kids.length qhc1, .string n1.high, .bool n1.bnd, .int .i64 n1.next.1, .int .u64 n1.next.2] 89)
  bo : w.heap[w0.heap.size + 1]? = some (.cells #[.bool n2.leaf, .slice qka2 n2.keys.length qkc2, .slice qva2 n2.vals.length qvc2, .slice qha2 n2.kids.length qhc2, .string n2.high, .bool n2.bnd, .int .i64 n2.next.1, .int .u64 n2.next.2] 89)
  own : OwnNode (w0.heap.size + 2) w n2 qka2 qva2 qha2 qkc2 qvc2 qhc2
section
variable {w0 w w' : World} {n1 : BN} {qka1 qva1 qha1 : Option Addr} {qkc1 qvc1 qhc1 : Nat} {n2 : BN} {qka2 qva2 qha2 : Option Addr} {qkc2 qvc2 qhc2 : Nat}
theorem PS.below (h : PS w0 w n1 qka1 qva1 qha1 qkc1 qvc1 qhc1 n2 qka2 qva2 qha2 qkc2 qvc2 qhc2) (hb : Below w.heap.size w w') : PS w0 w' n1 qka1 qva1 qha1 qkc1 qvc1 qhc1 n2 qka2 qva2 qha2 qkc2 qvc2 qhc2 :=
  ⟨h.bel.trans (hb.mono h.bel.size), Below.heap' hb h.bx, Below.heap' hb h.bo, h.own.below n2 qka2 qva2 qha2 qkc2 qvc2 qhc2 hb⟩
theorem PS.fin (h : PS w0 w n1 qka1 qva1 qha1 qkc1 qvc1 qhc1 n2 qka2 qva2 qha2 qkc2 qvc2 qhc2) (hu : Upd [w0.heap.size + 1] w w') : OwnNode w0.heap.size w' n2 qka2 qva2 qha2 qkc2 qvc2 qhc2 ∧ Below w0.heap.size w0 w' :=
  ⟨(h.own.upd n2 qka2 qva2 qha2 qkc2 qvc2 qhc2 hu (by simp)).rebase n2 qka2 qva2 qha2 qkc2 qvc2 qhc2 (by omega), h.bel.trans (hu.below h.bel.size (by simp))⟩
/-- A value turned. -/
theorem PS.setVal (h : PS w0 w n1 qka1 qva1 qha1 qkc1 qvc1 qhc1 n2 qka2 qva2 qha2 qkc2 qvc2 qhc2) {i : Nat} {y : Str} (hi : n2.vals[i]? = some y) (v : Str) :
    ∃ b, qva2 = some ⟨b, 0, none⟩ ∧ w0.heap.size + 2 ≤ b ∧ b < w.heap.size ∧ w.cell? ⟨b, i, none⟩ = some (.string y) ∧ w.frozen? ⟨b, i, none⟩ = false ∧ n2.vals.length ≤ qvc2 ∧ qvc2 ≤ 9223372036854775807 ∧
      PS w0 (w.setCell ⟨b, i, none⟩ (.string v)) n1 qka1 qva1 qha1 qkc1 qvc1 qhc1 { n2 with vals := n2.vals.set i v } qka2 qva2 qha2 qkc2 qvc2 qhc2 := by
  obtain ⟨b, c, h1, h2, h3, h4, h5⟩ := h.own.vl.setCell (y := v) (u := .string v) hi (j := 0) (by decide) rfl
  obtain ⟨hb1, hb2⟩ := h.own.vl.lt b h2
  rw [Nat.mul_one, Nat.add_zero] at h3 h4 h5
  have h6 := h.own.vl.at'
  injection h1 with h1 _ h7
  subst h1
  have hu : Upd [b] w (w.setCell ⟨b, i, none⟩ (.string v)) := (Upd.refl _ _).setCell (by simp) _
  have hl : (n2.vals.set i v).length = n2.vals.length := List.length_set ..
  have hk : OwnNode (w0.heap.size + 2) (w.setCell ⟨b, i, none⟩ (.string v)) { n2 with vals := n2.vals.set i v } qka2 (some ⟨b, 0, none⟩) qha2 qkc2 qvc2 qhc2 := by
    refine ⟨h.own.ky.upd hu (fun x hx => ?_), ?_, h.own.kd.upd hu (fun x hx => ?_), ?_, h.own.kh, ?_⟩
    · have := h.own.kv x b hx h2; simpa using this
    · show Row _ _ _ _ _ (.slice _ (n2.vals.set i v).length _) _
      rw [hl]
      subst h7
      exact h5
    · have := h.own.vh b x h2 hx; simpa using this.symm
    · intro x y hx hy
      exact h.own.kv x y hx hy
    · intro x y hx hy
      exact h.own.vh x y hx hy
  refine ⟨b, rfl, hb1, hb2, h3, h4, h6.1, h6.2.1, h.bel.trans (hu.below h.bel.size (by simp; omega)), hu.heap h.bx (by simp; omega), ?_, hk⟩
  have := hu.heap h.bo (by simp; omega)
  rw [this]
  show _ = some (Obj.cells #[_, _, .slice _ (n2.vals.set i v).length _, _, _, _, _, _] _)
  rw [hl]
theorem PS.size (h : PS w0 w n1 qka1 qva1 qha1 qkc1 qvc1 qhc1 n2 qka2 qva2 qha2 qkc2 qvc2 qhc2) : w0.heap.size + 2 ≤ w.heap.size := by have := heap_lt h.bo; omega
/-- New keys. -/
theorem PS.newKeys (h : PS w0 w n1 qka1 qva1 qha1 qkc1 qvc1 qhc1 n2 qka2 qva2 qha2 qkc2 qvc2 qhc2) {W w5 : World} (hW : Below w.heap.size w W) {a : Option Addr} {c : Nat} {L : List Str} (hr : Row (w0.heap.size + 2) 9 1 scell w5 (.slice a L.length c) L)
    (hu : Upd (Value.slice qka2 n2.keys.length qkc2).ownBlock.toList W w5) (hob : (Value.slice a L.length c).ownBlock = (Value.slice qka2 n2.keys.length qkc2).ownBlock ∨ (Value.slice a L.length c).ownBlock = some W.heap.size) :
    w5.heap[w0.heap.size + 1]? = some (.cells #[.bool n2.leaf, .slice qka2 n2.keys.length qkc2, .slice qva2 n2.vals.length qvc2, .slice qha2 n2.kids.length qhc2, .string n2.high, .bool n2.bnd, .int .i64 n2.next.1, .int .u64 n2.next.2] 89) ∧ w5.frozen? ⟨w0.heap.size + 1, 1, none⟩ = false ∧ w0.heap.size + 1 < w5.heap.size ∧
      PS w0 (w5.setCell ⟨w0.heap.size + 1, 1, none⟩ (.slice a L.length c)) n1 qka1 qva1 qha1 qkc1 qvc1 qhc1 { n2 with keys := L } a qva2 qha2 c qvc2 qhc2 := by
  have h1 := h.below hW
  have hl : ∀ b, b ∈ (Value.slice qka2 n2.keys.length qkc2).ownBlock.toList → w0.heap.size + 2 ≤ b := fun b hb => (h.own.ky.lt b (mem_own hb)).1
  have hbx := hu.heap h1.bx (fun hh => by have := hl _ hh; omega)
  have hbo := hu.heap h1.bo (fun hh => by have := hl _ hh; omega)
  have hv : Upd [w0.heap.size + 1] w5 (w5.setCell ⟨w0.heap.size + 1, 1, none⟩ (.slice a L.length c)) := (Upd.refl _ _).setCell (by simp) _
  have hB : Below w0.heap.size w0 w5 := h1.bel.trans (hu.below h1.bel.size (fun b hb => by have := hl _ hb; omega))
  have hnew : ∀ b, (Value.slice a L.length c).ownBlock = some b → (Value.slice qka2 n2.keys.length qkc2).ownBlock = some b ∨ b = W.heap.size := fun b hb => by
    rcases hob with e | e
    · exact .inl (by rw [← e]; exact hb)
    · rw [e] at hb; injection hb with hb; exact .inr hb.symm
  refine ⟨hbo, frozen_of_heap hbo _, heap_lt hbo, hB.trans (hv.below hB.size (by simp)), hv.heap hbx (by simp), heap_set_same hbo 1 _, ?_⟩
  have hk := h1.own
  have hup : ∀ b, b ∉ (Value.slice qka2 n2.keys.length qkc2).ownBlock.toList → w0.heap.size + 2 ≤ b → b ∉ [w0.heap.size + 1] := fun b _ hb => by simp; omega
  have hy : Row (w0.heap.size + 2) 9 1 scell (w5.setCell ⟨w0.heap.size + 1, 1, none⟩ (.slice a L.length c)) (.slice a L.length c) L := hr.upd hv (fun b hb hh => by have := (hr.lt b hb).1; simp at hh; omega)
  refine ⟨hy, (hk.vl.upd hu (fun b hb hh => hk.kv _ _ (mem_own hh) hb rfl)).upd hv (fun b hb hh => by have := (hk.vl.lt b hb).1; simp at hh; omega), (hk.kd.upd hu (fun b hb hh => hk.kh _ _ (mem_own hh) hb rfl)).upd hv (fun b hb hh => by have := (hk.kd.lt b hb).1; simp at hh; omega), fun x y hx hy => ?_, fun x y hx hy => ?_, hk.vh⟩
  · rcases hnew x hx with h2 | rfl
    · exact hk.kv x y h2 hy
    · have := (hk.vl.lt y hy).2; omega
  · rcases hnew x hx with h2 | rfl
    · exact hk.kh x y h2 hy
    · have := (hk.kd.lt y hy).2; omega
/-- New vals. -/
theorem PS.newVals (h : PS w0 w n1 qka1 qva1 qha1 qkc1 qvc1 qhc1 n2 qka2 qva2 qha2 qkc2 qvc2 qhc2) {W w5 : World} (hW : Below w.heap.size w W) {a : Option Addr} {c : Nat} {L : List Str} (hr : Row (w0.heap.size + 2) 9 1 scell w5 (.slice a L.length c) L)
    (hu : Upd (Value.slice qva2 n2.vals.length qvc2).ownBlock.toList W w5) (hob : (Value.slice a L.length c).ownBlock = (Value.slice qva2 n2.vals.length qvc2).ownBlock ∨ (Value.slice a L.length c).ownBlock = some W.heap.size) :
    w5.heap[w0.heap.size + 1]? = some (.cells #[.bool n2.leaf, .slice qka2 n2.keys.length qkc2, .slice qva2 n2.vals.length qvc2, .slice qha2 n2.kids.length qhc2, .string n2.high, .bool n2.bnd, .int .i64 n2.next.1, .int .u64 n2.next.2] 89) ∧ w5.frozen? ⟨w0.heap.size + 1, 2, none⟩ = false ∧ w0.heap.size + 1 < w5.heap.size ∧
      PS w0 (w5.setCell ⟨w0.heap.size + 1, 2, none⟩ (.slice a L.length c)) n1 qka1 qva1 qha1 qkc1 qvc1 qhc1 { n2 with vals := L } qka2 a qha2 qkc2 c qhc2 := by
  have h1 := h.below hW
  have hl : ∀ b, b ∈ (Value.slice qva2 n2.vals.length qvc2).ownBlock.toList → w0.heap.size + 2 ≤ b := fun b hb => (h.own.vl.lt b (mem_own hb)).1
  have hbx := hu.heap h1.bx (fun hh => by have := hl _ hh; omega)
  have hbo := hu.heap h1.bo (fun hh => by have := hl _ hh; omega)
  have hv : Upd [w0.heap.size + 1] w5 (w5.setCell ⟨w0.heap.size + 1, 2, none⟩ (.slice a L.length c)) := (Upd.refl _ _).setCell (by simp) _
  have hB : Below w0.heap.size w0 w5 := h1.bel.trans (hu.below h1.bel.size (fun b hb => by have := hl _ hb; omega))
  have hnew : ∀ b, (Value.slice a L.length c).ownBlock = some b → (Value.slice qva2 n2.vals.length qvc2).ownBlock = some b ∨ b = W.heap.size := fun b hb => by
    rcases hob with e | e
    · exact .inl (by rw [← e]; exact hb)
    · rw [e] at hb; injection hb with hb; exact .inr hb.symm
  refine ⟨hbo, frozen_of_heap hbo _, heap_lt hbo, hB.trans (hv.below hB.size (by simp)), hv.heap hbx (by simp), heap_set_same hbo 2 _, ?_⟩
  have hk := h1.own
  have hup : ∀ b, b ∉ (Value.slice qva2 n2.vals.length qvc2).ownBlock.toList → w0.heap.size + 2 ≤ b → b ∉ [w0.heap.size + 1] := fun b _ hb => by simp; omega
  have hy : Row (w0.heap.size + 2) 9 1 scell (w5.setCell ⟨w0.heap.size + 1, 2, none⟩ (.slice a L.length c)) (.slice a L.length c) L := hr.upd hv (fun b hb hh => by have := (hr.lt b hb).1; simp at hh; omega)
  refine ⟨(hk.ky.upd hu (fun b hb hh => hk.kv _ _ hb (mem_own hh) rfl)).upd hv (fun b hb hh => by have := (hk.ky.lt b hb).1; simp at hh; omega), hy, (hk.kd.upd hu (fun b hb hh => hk.vh _ _ (mem_own hh) hb rfl)).upd hv (fun b hb hh => by have := (hk.kd.lt b hb).1; simp at hh; omega), fun x y hx hy => ?_, hk.kh, fun x y hx hy => ?_⟩
  · rcases hnew y hy with h2 | rfl
    · exact hk.kv x y hx h2
    · have := (hk.ky.lt x hx).2; omega
  · rcases hnew x hx with h2 | rfl
    · exact hk.vh x y h2 hy
    · have := (hk.kd.lt y hy).2; omega
/-- New kids. -/
theorem PS.newKids (h : PS w0 w n1 qka1 qva1 qha1 qkc1 qvc1 qhc1 n2 qka2 qva2 qha2 qkc2 qvc2 qhc2) {W w5 : World} (hW : Below w.heap.size w W) {a : Option Addr} {c : Nat} {L : List Hd} (hr : Row (w0.heap.size + 2) 70 2 hcel w5 (.slice a L.length c) L)
    (hu : Upd (Value.slice qha2 n2.kids.length qhc2).ownBlock.toList W w5) (hob : (Value.slice a L.length c).ownBlock = (Value.slice qha2 n2.kids.length qhc2).ownBlock ∨ (Value.slice a L.length c).ownBlock = some W.heap.size) :
    w5.heap[w0.heap.size + 1]? = some (.cells #[.bool n2.leaf, .slice qka2 n2.keys.length qkc2, .slice qva2 n2.vals.length qvc2, .slice qha2 n2.kids.length qhc2, .string n2.high, .bool n2.bnd, .int .i64 n2.next.1, .int .u64 n2.next.2] 89) ∧ w5.frozen? ⟨w0.heap.size + 1, 3, none⟩ = false ∧ w0.heap.size + 1 < w5.heap.size ∧
      PS w0 (w5.setCell ⟨w0.heap.size + 1, 3, none⟩ (.slice a L.length c)) n1 qka1 qva1 qha1 qkc1 qvc1 qhc1 { n2 with kids := L } qka2 qva2 a qkc2 qvc2 c := by
  have h1 := h.below hW
  have hl : ∀ b, b ∈ (Value.slice qha2 n2.kids.length qhc2).ownBlock.toList → w0.heap.size + 2 ≤ b := fun b hb => (h.own.kd.lt b (mem_own hb)).1
  have hbx := hu.heap h1.bx (fun hh => by have := hl _ hh; omega)
  have hbo := hu.heap h1.bo (fun hh => by have := hl _ hh; omega)
  have hv : Upd [w0.heap.size + 1] w5 (w5.setCell ⟨w0.heap.size + 1, 3, none⟩ (.slice a L.length c)) := (Upd.refl _ _).setCell (by simp) _
  have hB : Below w0.heap.size w0 w5 := h1.bel.trans (hu.below h1.bel.size (fun b hb => by have := hl _ hb; omega))
  have hnew : ∀ b, (Value.slice a L.length c).ownBlock = some b → (Value.slice qha2 n2.kids.length qhc2).ownBlock = some b ∨ b = W.heap.size := fun b hb => by
    rcases hob with e | e
    · exact .inl (by rw [← e]; exact hb)
    · rw [e] at hb; injection hb with hb; exact .inr hb.symm
  refine ⟨hbo, frozen_of_heap hbo _, heap_lt hbo, hB.trans (hv.below hB.size (by simp)), hv.heap hbx (by simp), heap_set_same hbo 3 _, ?_⟩
  have hk := h1.own
  have hup : ∀ b, b ∉ (Value.slice qha2 n2.kids.length qhc2).ownBlock.toList → w0.heap.size + 2 ≤ b → b ∉ [w0.heap.size + 1] := fun b _ hb => by simp; omega
  have hy : Row (w0.heap.size + 2) 70 2 hcel (w5.setCell ⟨w0.heap.size + 1, 3, none⟩ (.slice a L.length c)) (.slice a L.length c) L := hr.upd hv (fun b hb hh => by have := (hr.lt b hb).1; simp at hh; omega)
  refine ⟨(hk.ky.upd hu (fun b hb hh => hk.kh _ _ hb (mem_own hh) rfl)).upd hv (fun b hb hh => by have := (hk.ky.lt b hb).1; simp at hh; omega), (hk.vl.upd hu (fun b hb hh => hk.vh _ _ hb (mem_own hh) rfl)).upd hv (fun b hb hh => by have := (hk.vl.lt b hb).1; simp at hh; omega), hy, hk.kv, fun x y hx hy => ?_, fun x y hx hy => ?_⟩
  · rcases hnew y hy with h2 | rfl
    · exact hk.kh x y hx h2
    · have := (hk.ky.lt x hx).2; omega
  · rcases hnew y hy with h2 | rfl
    · exact hk.vh x y hx h2
    · have := (hk.vl.lt x hx).2; omega
theorem node_stored {qf qbd : Bool} {qka qva qha : Option Addr} {qkl qkc qvl qvc qhl qhc : Nat} {qhi : Str} {qns qng : Int} {q : Nat} (h : w.heap[q]? = some (.cells #[.bool qf, .slice qka qkl qkc, .slice qva qvl qvc, .slice qha qhl qhc, .string qhi, .bool qbd, .int .i64 qns, .int .u64 qng] 89)) : ((World.setCell (World.setCell (World.setCell (World.setCell (World.setCell (World.setCell (World.setCell (World.setCell w ⟨q, 0, none⟩ (.bool n2.leaf)) ⟨q, 1, none⟩ (.slice qka2 n2.keys.length qkc2)) ⟨q, 2, none⟩ (.slice qva2 n2.vals.length qvc2)) ⟨q, 3, none⟩ (.slice qha2 n2.kids.length qhc2)) ⟨q, 4, none⟩ (.string n2.high)) ⟨q, 5, none⟩ (.bool n2.bnd)) ⟨q, 6, none⟩ (.int .i64 n2.next.1)) ⟨q, 7, none⟩ (.int .u64 n2.next.2))).heap[q]? = some (.cells #[.bool n2.leaf, .slice qka2 n2.keys.length qkc2, .slice qva2 n2.vals.length qvc2, .slice qha2 n2.kids.length qhc2, .string n2.high, .bool n2.bnd, .int .i64 n2.next.1, .int .u64 n2.next.2] 89) ∧ Upd [q] w ((World.setCell (World.setCell (World.setCell (World.setCell (World.setCell (World.setCell (World.setCell (World.setCell w ⟨q, 0, none⟩ (.bool n2.leaf)) ⟨q, 1, none⟩ (.slice qka2 n2.keys.length qkc2)) ⟨q, 2, none⟩ (.slice qva2 n2.vals.length qvc2)) ⟨q, 3, none⟩ (.slice qha2 n2.kids.length qhc2)) ⟨q, 4, none⟩ (.string n2.high)) ⟨q, 5, none⟩ (.bool n2.bnd)) ⟨q, 6, none⟩ (.int .i64 n2.next.1)) ⟨q, 7, none⟩ (.int .u64 n2.next.2))) := by
  refine ⟨?_, ?_⟩
  · have h0 : (World.setCell w ⟨q, 0, none⟩ (.bool n2.leaf)).heap[q]? = some (.cells #[.bool n2.leaf, .slice qka qkl qkc, .slice qva qvl qvc, .slice qha qhl qhc, .string qhi, .bool qbd, .int .i64 qns, .int .u64 qng] 89) := heap_set_same h 0 _
    have h1 : (World.setCell (World.setCell w ⟨q, 0, none⟩ (.bool n2.leaf)) ⟨q, 1, none⟩ (.slice qka2 n2.keys.length qkc2)).heap[q]? = some (.cells #[.bool n2.leaf, .slice qka2 n2.keys.length qkc2, .slice qva qvl qvc, .slice qha qhl qhc, .string qhi, .bool qbd, .int .i64 qns, .int .u64 qng] 89) := heap_set_same h0 1 _
    have h2 : (World.setCell (World.setCell (World.setCell w ⟨q, 0, none⟩ (.bool n2.leaf)) ⟨q, 1, none⟩ (.slice qka2 n2.keys.length qkc2)) ⟨q, 2, none⟩ (.slice qva2 n2.vals.length qvc2)).heap[q]? = some (.cells #[.bool n2.leaf, .slice qka2 n2.keys.length qkc2, .slice qva2 n2.vals.length qvc2, .slice qha qhl qhc, .string qhi, .bool qbd, .int .i64 qns, .int .u64 qng] 89) := heap_set_same h1 2 _
    have h3 : (World.setCell (World.setCell (World.setCell (World.setCell w ⟨q, 0, none⟩ (.bool n2.leaf)) ⟨q, 1, none⟩ (.slice qka2 n2.keys.length qkc2)) ⟨q, 2, none⟩ (.slice qva2 n2.vals.length qvc2)) ⟨q, 3, none⟩ (.slice qha2 n2.kids.length qhc2)).heap[q]? = some (.cells #[.bool n2.leaf, .slice qka2 n2.keys.length qkc2, .slice qva2 n2.vals.length qvc2, .slice qha2 n2.kids.length qhc2, .string qhi, .bool qbd, .int .i64 qns, .int .u64 qng] 89) := heap_set_same h2 3 _
    have h4 : (World.setCell (World.setCell (World.setCell (World.setCell (World.setCell w ⟨q, 0, none⟩ (.bool n2.leaf)) ⟨q, 1, none⟩ (.slice qka2 n2.keys.length qkc2)) ⟨q, 2, none⟩ (.slice qva2 n2.vals.length qvc2)) ⟨q, 3, none⟩ (.slice qha2 n2.kids.length qhc2)) ⟨q, 4, none⟩ (.string n2.high)).heap[q]? = some (.cells #[.bool n2.leaf, .slice qka2 n2.keys.length qkc2, .slice qva2 n2.vals.length qvc2, .slice qha2 n2.kids.length qhc2, .string n2.high, .bool qbd, .int .i64 qns, .int .u64 qng] 89) := heap_set_same h3 4 _
    have h5 : (World.setCell (World.setCell (World.setCell (World.setCell (World.setCell (World.setCell w ⟨q, 0, none⟩ (.bool n2.leaf)) ⟨q, 1, none⟩ (.slice qka2 n2.keys.length qkc2)) ⟨q, 2, none⟩ (.slice qva2 n2.vals.length qvc2)) ⟨q, 3, none⟩ (.slice qha2 n2.kids.length qhc2)) ⟨q, 4, none⟩ (.string n2.high)) ⟨q, 5, none⟩ (.bool n2.bnd)).heap[q]? = some (.cells #[.bool n2.leaf, .slice qka2 n2.keys.length qkc2, .slice qva2 n2.vals.length qvc2, .slice qha2 n2.kids.length qhc2, .string n2.high, .bool n2.bnd, .int .i64 qns, .int .u64 qng] 89) := heap_set_same h4 5 _
    have h6 : (World.setCell (World.setCell (World.setCell (World.setCell (World.setCell (World.setCell (World.setCell w ⟨q, 0, none⟩ (.bool n2.leaf)) ⟨q, 1, none⟩ (.slice qka2 n2.keys.length qkc2)) ⟨q, 2, none⟩ (.slice qva2 n2.vals.length qvc2)) ⟨q, 3, none⟩ (.slice qha2 n2.kids.length qhc2)) ⟨q, 4, none⟩ (.string n2.high)) ⟨q, 5, none⟩ (.bool n2.bnd)) ⟨q, 6, none⟩ (.int .i64 n2.next.1)).heap[q]? = some (.cells #[.bool n2.leaf, .slice qka2 n2.keys.length qkc2, .slice qva2 n2.vals.length qvc2, .slice qha2 n2.kids.length qhc2, .string n2.high, .bool n2.bnd, .int .i64 n2.next.1, .int .u64 qng] 89) := heap_set_same h5 6 _
    exact heap_set_same h6 7 _
  · repeat refine Upd.setCell ?_ (by simp) _
    exact Upd.refl _ _
end
end Go.Proofs.Ytlhobbfncjjeaaa
namespace Go.Proofs.Ytlhobbfncjjeaaa
open Go.RowKit
def NEnd (n2 : BN) (old : Str) (had : Bool) (w : World) (x : Ending) (w' : World) : Prop :=
  ∃ qka2 qva2 qha2 qkc2 qvc2 qhc2, x = .returned (.tuple #[.agg #[.bool n2.leaf, .slice qka2 n2.keys.length qkc2, .slice qva2 n2.vals.length qvc2, .slice qha2 n2.kids.length qhc2, .string n2.high, .bool n2.bnd, .int .i64 n2.next.1, .int .u64 n2.next.2], .string old, .bool had]) ∧ OwnNode w.heap.size w' n2 qka2 qva2 qha2 qkc2 qvc2 qhc2 ∧ Below w.heap.size w w'
set_option maxRecDepth 100000 in
set_option maxHeartbeats 1000000 in
theorem nPut_ok (n : BN) (qka qva qha : Option Addr) (qkc qvc qhc : Nat) {lo : Str} (key value : Str) (w : World) (ho : NodeOK lo n) (hn : NodeAt w n qka qva qha qkc qvc qhc) (hsm : n.keys.length ≤ 1000) (hl : n.leaf = true) (hc : n.covers key = true) :
    Calls Try.prog 55 #[.agg #[.bool n.leaf, .slice qka n.keys.length qkc, .slice qva n.vals.length qvc, .slice qha n.kids.length qhc, .string n.high, .bool n.bnd, .int .i64 n.next.1, .int .u64 n.next.2], .string key, .string value] w (NEnd (n.put key value) (n.old key) (hasK key n.keys) w) := by
  have hvl := (ho.lf hl).1
  have hkd := (ho.lf hl).2
  have hC := Lib.hid fun W hW => nClone_ok n qka qva qha qkc qvc qhc W (hn.below n qka qva qha qkc qvc qhc hW) ⟨by omega, by omega, by rw [hkd]; simp⟩
  have hT := Lib.hid fun W hW => nTakes_ok n qka qva qha qkc qvc qhc key W ho (hn.below n qka qva qha qkc qvc qhc hW) hsm hl hc
  have hF := Lib.hid fun W (hW : Below w.heap.size w W) => nFind_any n.leaf qka n.keys.length qkc qva n.vals.length qvc qha n.kids.length qhc n.high n.bnd n.next.1 n.next.2 n.keys key W (hn.1.below hW) rfl
  replace hkd := Lib.hid hkd
  replace hvl := Lib.hid hvl
  replace ho := Lib.hid ho
  clear hn hc
  obtain ⟨m, hm⟩ : ∃ m, m = n.put key value := ⟨_, rfl⟩
  obtain ⟨od, hod⟩ : ∃ od, od = n.old key := ⟨_, rfl⟩
  rw [← hm, ← hod]
  replace hm := Lib.hid hm
  replace hod := Lib.hid hod
  obtain ⟨lf, K, V, H, hi, bd, nx⟩ := n
  simp only at hC hT hF hl hkd hvl hsm ⊢
  subst hl
  go_enter Try.func55, Try.ntmps55
  go_wp2_with fail
  obtain ⟨hbx, hby⟩ := heap_two w (.cells #[.bool true, .slice qka K.length qkc, .slice qva V.length qvc, .slice qha H.length qhc, .string hi, .bool bd, .int .i64 nx.1, .int .u64 nx.2] 89) (.cells #[.bool false, .slice none 0 0, .slice none 0 0, .slice none 0 0, .string ⟨#[]⟩, .bool false, .int .i64 0, .int .u64 0] 89)
  have hB := below_two w (.cells #[.bool true, .slice qka K.length qkc, .slice qva V.length qvc, .slice qha H.length qhc, .string hi, .bool bd, .int .i64 nx.1, .int .u64 nx.2] 89) (.cells #[.bool false, .slice none 0 0, .slice none 0 0, .slice none 0 0, .string ⟨#[]⟩, .bool false, .int .i64 0, .int .u64 0] 89)
  have hz : ((w.alloc (.cells #[.bool true, .slice qka K.length qkc, .slice qva V.length qvc, .slice qha H.length qhc, .string hi, .bool bd, .int .i64 nx.1, .int .u64 nx.2] 89)).alloc (.cells #[.bool false, .slice none 0 0, .slice none 0 0, .slice none 0 0, .string ⟨#[]⟩, .bool false, .int .i64 0, .int .u64 0] 89)).heap.size = w.heap.size + 2 := by simp
  generalize (w.alloc (.cells #[.bool true, .slice qka K.length qkc, .slice qva V.length qvc, .slice qha H.length qhc, .string hi, .bool bd, .int .i64 nx.1, .int .u64 nx.2] 89)).alloc (.cells #[.bool false, .slice none 0 0, .slice none 0 0, .slice none 0 0, .string ⟨#[]⟩, .bool false, .int .i64 0, .int .u64 0] 89) = W0 at *
  refine (hC.out _ hB).mono ?_
  clear hC
  rintro e w1 ⟨qka2, qva2, qha2, qkc2, qvc2, qhc2, rfl, hown, hb1⟩
  rw [hz] at hown
  replace hbx := Below.heap' hb1 hbx
  replace hby := Below.heap' hb1 hby
  have hB1 := hB.trans (hb1.mono hB.size)
  have y0 := fun k => frozen_of_heap hby k
  obtain ⟨d0, d1, d2, d3, d4, d5, d6, d7⟩ := node_cells false none 0 0 none 0 0 none 0 0 ⟨#[]⟩ false 0 0 hby
  obtain ⟨f0, f1, f2, f3, f4, f5, f6, f7⟩ := And.intro (y0 0) (And.intro (y0 1) (And.intro (y0 2) (And.intro (y0 3) (And.intro (y0 4) (And.intro (y0 5) (And.intro (y0 6) (y0 7)))))))
  have hbx' := Lib.hid hbx
  have hby' := Lib.hid hby
  have hown' := Lib.hid hown
  have hB1' := Lib.hid hB1
  obtain ⟨c0, c1, c2, c3, c4, c5, c6, c7⟩ := node_cells _ _ _ _ _ _ _ _ _ _ _ _ _ _ hbx
  clear hbx hby hown hB1 y0 hb1 hB hz
  have hq := heap_lt hby'.out
  go_wp2_with fail
  obtain ⟨W2, hW2⟩ : ∃ W2, W2 = (World.setCell (World.setCell (World.setCell (World.setCell (World.setCell (World.setCell (World.setCell (World.setCell w1 ⟨w.heap.size + 1, 0, none⟩ (.bool true)) ⟨w.heap.size + 1, 1, none⟩ (.slice qka2 K.length qkc2)) ⟨w.heap.size + 1, 2, none⟩ (.slice qva2 V.length qvc2)) ⟨w.heap.size + 1, 3, none⟩ (.slice qha2 H.length qhc2)) ⟨w.heap.size + 1, 4, none⟩ (.string hi)) ⟨w.heap.size + 1, 5, none⟩ (.bool bd)) ⟨w.heap.size + 1, 6, none⟩ (.int .i64 nx.1)) ⟨w.heap.size + 1, 7, none⟩ (.int .u64 nx.2)) := ⟨_, rfl⟩
  rw [← hW2]
  have hPS : PS w W2 ⟨true, K, V, H, hi, bd, nx⟩ qka qva qha qkc qvc qhc ⟨true, K, V, H, hi, bd, nx⟩ qka2 qva2 qha2 qkc2 qvc2 qhc2 := by
    obtain ⟨hst, hus⟩ := node_stored (n2 := ⟨true, K, V, H, hi, bd, nx⟩) (qka2 := qka2) (qva2 := qva2) (qha2 := qha2) (qkc2 := qkc2) (qvc2 := qvc2) (qhc2 := qhc2) hby'.out
    rw [hW2]
    exact ⟨hB1'.out.trans (hus.below hB1'.out.size (by simp)), hus.heap hbx'.out (by simp), hst, hown'.out.upd ⟨true, K, V, H, hi, bd, nx⟩ qka2 qva2 qha2 qkc2 qvc2 qhc2 hus (by simp)⟩
  clear hW2 d0 d1 d2 d3 d4 d5 d6 d7 c0 c1 c2 c3 c4 c5 c6 c7 f0 f1 f2 f3 f4 f5 f6 f7 hbx' hby' hown' hB1' hq
  refine (hT.out _ hPS.bel).mono ?_
  clear hT
  rintro e w3 ⟨rfl, hb3⟩
  have hPS3 := hPS.below hb3
  clear hPS hb3
  have hq := hPS3.size
  obtain ⟨c0, c1, c2, c3, c4, c5, c6, c7⟩ := node_cells _ _ _ _ _ _ _ _ _ _ _ _ _ _ hPS3.bx
  replace hPS3 := Lib.hid hPS3
  go_wp2_with fail
  refine (hF.out _ hPS3.out.bel).mono ?_
  clear hF
  rintro e w4 ⟨rfl, hb4⟩
  have hPS4 := hPS3.out.below hb4
  clear hPS3 hb4 c0 c1 c2 c3 c4 c5 c6 c7 hq
  have hq := hPS4.size
  have hcl := cut_le key K
  cases hr : hasK key K with
  | true =>
    have hlt : cut key K < K.length := (List.getElem?_eq_some_iff.1 (hasK_iff.1 hr)).1
    obtain ⟨y, hy⟩ : ∃ y, V[cut key K]? = some y := ⟨_, List.getElem?_eq_getElem (by rw [hvl.out]; exact hlt)⟩
    have hod' : od = y := by
      rw [hod.out]
      unfold BN.old
      simp only [hr, if_true]
      rw [List.getD_eq_getElem?_getD, hy]
      rfl
    have hm' : m = ⟨true, K, V.set (cut key K) value, H, hi, bd, nx⟩ := by
      rw [hm.out]
      unfold BN.put
      simp only [hr, if_true]
    obtain ⟨b, rfl, hb1, hb2, hcell, hfr, hvc, hvc63, hPS5⟩ := hPS4.setVal hy value
    have hvlt : cut key K < V.length := by rw [hvl.out]; exact hlt
    obtain ⟨d0, d1, d2, d3, d4, d5, d6, d7⟩ := node_cells _ _ _ _ _ _ _ _ _ _ _ _ _ _ hPS4.bo
    have y0 := fun k => frozen_of_heap hPS4.bo k
    obtain ⟨f0, f1, f2, f3, f4, f5, f6, f7⟩ := And.intro (y0 0) (And.intro (y0 1) (And.intro (y0 2) (And.intro (y0 3) (And.intro (y0 4) (And.intro (y0 5) (And.intro (y0 6) (y0 7)))))))
    clear y0
    replace hPS4 := Lib.hid hPS4
    replace hPS5 := Lib.hid hPS5
    replace hod' := Lib.hid hod'
    replace hm' := Lib.hid hm'
    replace hy := Lib.hid hy
    clear hm hod hcl
    generalize cut key K = ix at *
    go_wp2_with fail
    refine bodyPost_ret (v := .tuple #[.agg #[.bool true, .slice qka2 K.length qkc2, .slice (some ⟨b, 0, none⟩) V.length qvc2, .slice qha2 H.length qhc2, .string hi, .bool bd, .int .i64 nx.1, .int .u64 nx.2], .string y, .bool true]) (by simp [results, Try.results55, go_sem, d0, d1, d2, d3, d4, d5, d6, d7]) rfl ?_
    have hfin : ∀ W', Upd [w.heap.size + 1] (w4.setCell ⟨b, ix, none⟩ (.string value)) W' → NEnd m od (hasK key K) w (.returned (.tuple #[.agg #[.bool true, .slice qka2 K.length qkc2, .slice (some ⟨b, 0, none⟩) V.length qvc2, .slice qha2 H.length qhc2, .string hi, .bool bd, .int .i64 nx.1, .int .u64 nx.2], .string y, .bool true])) W' := fun W' hu => by
      obtain ⟨z1, z2⟩ := hPS5.out.fin hu
      rw [hm'.out, hod'.out, hr]
      exact ⟨qka2, some ⟨b, 0, none⟩, qha2, qkc2, qvc2, qhc2, by rw [List.length_set], z1, z2⟩
    refine hfin _ ?_
    iterate 8 refine Upd.setCell ?_ (by simp) _
    exact Upd.refl _ _
  | false =>
    have hod' : od = s0 := by
      rw [hod.out]
      unfold BN.old
      simp only [hr, Bool.false_eq_true, if_false]
    have hm' : m = ⟨true, K.insertIdx (cut key K) key, V.insertIdx (cut key K) value, H, hi, bd, nx⟩ := by
      rw [hm.out]
      unfold BN.put
      simp only [hr, Bool.false_eq_true, if_false]
    obtain ⟨d0, d1, d2, d3, d4, d5, d6, d7⟩ := node_cells _ _ _ _ _ _ _ _ _ _ _ _ _ _ hPS4.bo
    replace hod' := Lib.hid hod'
    replace hm' := Lib.hid hm'
    clear hm hod
    have hvcl : cut key K ≤ V.length := by rw [hvl.out]; exact hcl
    generalize cut key K = ix at *
    replace hPS4 := Lib.hid hPS4
    go_wp2_with fail
    have hA1 : Below w4.heap.size w4 (w4.alloc (.cells #[.string key] 9)) := (Below.refl _ _).alloc (Nat.le_refl _) _
    have hn1 := heap_alloc_new w4 (.cells #[.string key] 9)
    refine (InStr.insert_any scell (w.heap.size + 2) qka2 qkc2 K key w4.heap.size _ (hPS4.out.own.ky.below hA1) hn1 (by simp; omega) (by omega) ix hcl (fun b hb => by have := (hPS4.out.own.ky.lt b hb).2; omega)).mono ?_
    rintro e w5 ⟨a1, c1, rfl, hr5, hu5, ho5⟩
    obtain ⟨e1, e2, e3, hPS5⟩ := hPS4.out.newKeys hA1 hr5 hu5 ho5
    clear hPS4 hA1 hn1 hr5 hu5 ho5 d0 d1 d2 d3 d4 d5 d6 d7 hq
    obtain ⟨d0, d1, d2, d3, d4, d5, d6, d7⟩ := node_cells _ _ _ _ _ _ _ _ _ _ _ _ _ _ e1
    replace hPS5 := Lib.hid hPS5
    replace e1 := Lib.hid e1
    go_wp2_with fail
    obtain ⟨w6, hw6⟩ : ∃ w6, w6 = w5.setCell ⟨w.heap.size + 1, 1, none⟩ (.slice a1 (K.insertIdx ix key).length c1) := ⟨_, rfl⟩
    rw [← hw6]
    rw [← hw6] at hPS5
    have hsz6 : w6.heap.size = w5.heap.size := by rw [hw6]; simp [World.setCell]
    rw [← hsz6]
    have hA1 : Below w6.heap.size w6 (w6.alloc (.cells #[.string value] 9)) := (Below.refl _ _).alloc (Nat.le_refl _) _
    have hn1 := heap_alloc_new w6 (.cells #[.string value] 9)
    have hq6 := hPS5.out.size
    refine (InStr.insert_any scell (w.heap.size + 2) qva2 qvc2 V value w6.heap.size _ (hPS5.out.own.vl.below hA1) hn1 (by simp; omega) (by have := hvl.out; omega) ix hvcl (fun b hb => by have := (hPS5.out.own.vl.lt b hb).2; omega)).mono ?_
    rintro e w7 ⟨a2, c2, rfl, hr7, hu7, ho7⟩
    obtain ⟨g1, g2, g3, hPS7⟩ := hPS5.out.newVals hA1 hr7 hu7 ho7
    clear hPS5 hA1 hn1 hr7 hu7 ho7 d0 d1 d2 d3 d4 d5 d6 d7 hw6 hsz6 hq6 e1 e2 e3
    obtain ⟨d0, d1, d2, d3, d4, d5, d6, d7⟩ := node_cells _ _ _ _ _ _ _ _ _ _ _ _ _ _ g1
    have y0 := fun k => frozen_of_heap g1 k
    obtain ⟨f0, f1, f2, f3, f4, f5, f6, f7⟩ := And.intro (y0 0) (And.intro (y0 1) (And.intro (y0 2) (And.intro (y0 3) (And.intro (y0 4) (And.intro (y0 5) (And.intro (y0 6) (y0 7)))))))
    clear y0 g2
    replace hPS7 := Lib.hid hPS7
    replace g1 := Lib.hid g1
    go_wp2_with fail
    refine bodyPost_ret (v := .tuple #[.agg #[.bool true, .slice a1 (K.insertIdx ix key).length c1, .slice a2 (V.insertIdx ix value).length c2, .slice qha2 H.length qhc2, .string hi, .bool bd, .int .i64 nx.1, .int .u64 nx.2], .string ⟨#[]⟩, .bool false]) (by simp [results, Try.results55, go_sem, d0, d1, d2, d3, d4, d5, d6, d7]) rfl ?_
    have hfin : ∀ W', Upd [w.heap.size + 1] (w7.setCell ⟨w.heap.size + 1, 2, none⟩ (.slice a2 (V.insertIdx ix value).length c2)) W' → NEnd m od (hasK key K) w (.returned (.tuple #[.agg #[.bool true, .slice a1 (K.insertIdx ix key).length c1, .slice a2 (V.insertIdx ix value).length c2, .slice qha2 H.length qhc2, .string hi, .bool bd, .int .i64 nx.1, .int .u64 nx.2], .string ⟨#[]⟩, .bool false])) W' := fun W' hu => by
      obtain ⟨z1, z2⟩ := hPS7.out.fin hu
      rw [hm'.out, hod'.out, hr]
      exact ⟨a1, a2, qha2, c1, c2, qhc2, rfl, z1, z2⟩
    refine hfin _ ?_
    iterate 8 refine Upd.setCell ?_ (by simp) _
    exact Upd.refl _ _
end Go.Proofs.Ytlhobbfncjjeaaa
