/- The contract of a node's clone: it shares nothing. -/
import Derived.Test.YtlhobbfncjjeaaaBkNode3
import Derived.Test.YtlhobbfncjjeaaaCloneOfStr
import Derived.Test.YtlhobbfncjjeaaaCloneOfHd
namespace Go.Proofs.Ytlhobbfncjjeaaa
open Go.RowKit
section
variable {α : Type} {w : World} {k : Nat} {f : α → List Value} {a : Option Addr} {c : Nat} {L : List α}
theorem flat_inv (hf : ∀ x, (f x).length = k) (hk : 0 < k) {t : Nat} {y : Value} (h : (L.flatMap f)[t]? = some y) : ∃ x, L[t / k]? = some x ∧ (f x)[t % k]? = some y := by
  have hlt := (List.getElem?_eq_some_iff.1 h).1
  rw [flat_len hf] at hlt
  have hq : t / k < L.length := by rw [Nat.div_lt_iff_lt_mul hk]; exact hlt
  have hr : t % k < k := Nat.mod_lt _ hk
  refine ⟨L[t / k], List.getElem?_eq_getElem hq, ?_⟩
  have h3 := flat_get hf L (t / k) _ (List.getElem?_eq_getElem hq) (t % k) _ (List.getElem?_eq_getElem (by rw [hf]; exact hr))
  rw [show t / k * k + t % k = t by rw [Nat.mul_comm]; exact Nat.div_add_mod t k, h] at h3
  rw [List.getElem?_eq_getElem (by rw [hf]; exact hr)]
  exact h3.symm
theorem At.src (h : At w k f a c L) (hf : ∀ x, (f x).length = k) (h1 : ∀ x, ∀ y ∈ f x, y.oneCell' = true) (hk : 0 < k) : SrcOf w (.slice a L.length c) L.length k (L.flatMap f) := by
  refine ⟨flat_len hf L, flat_one h1 L, ?_⟩
  obtain ⟨q1, q2, ⟨rfl, rfl⟩ | ⟨b, o, rfl, q3, q4⟩⟩ := h
  · have : L.length = 0 := by omega
    exact .inl ⟨by rw [this], this⟩
  · refine .inr ⟨_, _, rfl, fun j y hj => ?_⟩
    obtain ⟨x, h2, h3⟩ := flat_inv hf hk hj
    have := q4 _ _ h2 _ _ h3
    rw [Addr.add_lit]
    rwa [show o + j / k * k + j % k = o + j by rw [Nat.add_assoc]; congr 1; rw [Nat.mul_comm]; exact Nat.div_add_mod j k] at this
theorem Row.at' {base : Nat} {e : TypeId} (h : Row base e k f w (.slice a L.length c) L) : At w k f a c L := by
  rcases h.cases with ⟨h1, rfl⟩ | ⟨b, cap, h1, h2, h3, h4, h5, h6, h7, _⟩
  · injection h1 with h1 _ h3
    exact ⟨Nat.zero_le _, by omega, .inl ⟨h1, h3⟩⟩
  · injection h1 with h1 _ h3
    subst h1 h3
    refine ⟨h5, by unfold maxLen at h6; omega, .inr ⟨b, 0, rfl, fun _ => h3, fun i x hx j y hy => ?_⟩⟩
    rw [Nat.zero_add]
    exact h7 _ _ (flat_get h.1 L i x hx j y hy)
end
theorem scell_len (x : Str) : (scell x).length = 1 := rfl
theorem scell_one (x : Str) : ∀ y ∈ scell x, y.oneCell' = true := by intro y hy; simp [scell] at hy; subst hy; rfl
theorem hcel_len (x : Hd) : (hcel x).length = 2 := rfl
theorem hcel_one (x : Hd) : ∀ y ∈ hcel x, y.oneCell' = true := by intro y hy; simp [hcel] at hy; rcases hy with rfl | rfl <;> rfl
/-- Slices of a node that are the call's own, each in a block of its own. -/
structure OwnNode (base : Nat) (w : World) (n : BN) (qka qva qha : Option Addr) (qkc qvc qhc : Nat) : Prop where
  ky : Row base 9 1 scell w (.slice qka n.keys.length qkc) n.keys
  vl : Row base 9 1 scell w (.slice qva n.vals.length qvc) n.vals
  kd : Row base 70 2 hcel w (.slice qha n.kids.length qhc) n.kids
  kv : ∀ x y, (Value.slice qka n.keys.length qkc).ownBlock = some x → (Value.slice qva n.vals.length qvc).ownBlock = some y → x ≠ y
  kh : ∀ x y, (Value.slice qka n.keys.length qkc).ownBlock = some x → (Value.slice qha n.kids.length qhc).ownBlock = some y → x ≠ y
  vh : ∀ x y, (Value.slice qva n.vals.length qvc).ownBlock = some x → (Value.slice qha n.kids.length qhc).ownBlock = some y → x ≠ y
theorem OwnNode.at {base : Nat} {w : World} (n : BN) (qka qva qha : Option Addr) (qkc qvc qhc : Nat) (h : OwnNode base w n qka qva qha qkc qvc qhc) : NodeAt w n qka qva qha qkc qvc qhc := ⟨h.ky.at', h.vl.at', h.kd.at'⟩
def CloneN (n : BN) (w : World) (x : Ending) (w' : World) : Prop :=
  ∃ qka qva qha qkc qvc qhc, x = .returned (.agg #[.bool n.leaf, .slice qka n.keys.length qkc, .slice qva n.vals.length qvc, .slice qha n.kids.length qhc, .string n.high, .bool n.bnd, .int .i64 n.next.1, .int .u64 n.next.2]) ∧ OwnNode w.heap.size w' n qka qva qha qkc qvc qhc ∧ Below w.heap.size w w'
theorem nClone_ok (n : BN) (qka qva qha : Option Addr) (qkc qvc qhc : Nat) (w : World) (hn : NodeAt w n qka qva qha qkc qvc qhc) (hsm : n.keys.length ≤ 1000 ∧ n.vals.length ≤ 1000 ∧ n.kids.length ≤ 1001) : Calls Try.prog 71 #[.agg #[.bool n.leaf, .slice qka n.keys.length qkc, .slice qva n.vals.length qvc, .slice qha n.kids.length qhc, .string n.high, .bool n.bnd, .int .i64 n.next.1, .int .u64 n.next.2]] w (CloneN n w) := by
  have c1 := Lib.hid fun W (hW : Below w.heap.size w W) => ClStr.clone_any scell scell_len scell_one W.heap.size qka qkc n.keys W ((hn.1.below hW).src scell_len scell_one (by decide)) (Nat.le_refl _) (by omega)
  have c2 := Lib.hid fun W (hW : Below w.heap.size w W) => ClStr.clone_any scell scell_len scell_one W.heap.size qva qvc n.vals W ((hn.2.1.below hW).src scell_len scell_one (by decide)) (Nat.le_refl _) (by omega)
  have c3 := Lib.hid fun W (hW : Below w.heap.size w W) => ClHd.clone_any hcel hcel_len hcel_one W.heap.size qha qhc n.kids W ((hn.2.2.below hW).src hcel_len hcel_one (by decide)) (Nat.le_refl _) (by omega)
  obtain ⟨lf, K, V, H, hi, bd, nx⟩ := n
  simp only at c1 c2 c3 ⊢
  clear hn hsm
  obtain ⟨v, hv⟩ : ∃ v, v = ((w.alloc (.cells #[.bool lf, .slice qka K.length qkc, .slice qva V.length qvc, .slice qha H.length qhc, .string hi, .bool bd, .int .i64 nx.1, .int .u64 nx.2] 89)).alloc (.cells #[.bool false, .slice none 0 0, .slice none 0 0, .slice none 0 0, .string ⟨#[]⟩, .bool false, .int .i64 0, .int .u64 0] 89)) := ⟨_, rfl⟩
  have hB := below_two w (.cells #[.bool lf, .slice qka K.length qkc, .slice qva V.length qvc, .slice qha H.length qhc, .string hi, .bool bd, .int .i64 nx.1, .int .u64 nx.2] 89) (.cells #[.bool false, .slice none 0 0, .slice none 0 0, .slice none 0 0, .string ⟨#[]⟩, .bool false, .int .i64 0, .int .u64 0] 89)
  obtain ⟨hbx, hby⟩ := heap_two w (.cells #[.bool lf, .slice qka K.length qkc, .slice qva V.length qvc, .slice qha H.length qhc, .string hi, .bool bd, .int .i64 nx.1, .int .u64 nx.2] 89) (.cells #[.bool false, .slice none 0 0, .slice none 0 0, .slice none 0 0, .string ⟨#[]⟩, .bool false, .int .i64 0, .int .u64 0] 89)
  rw [← hv] at hB hbx hby
  have hvs : v.heap.size = w.heap.size + 2 := by rw [hv]; simp
  replace hv := Lib.hid hv
  replace hbx := Lib.hid hbx
  replace hby := Lib.hid hby
  replace hB := Lib.hid hB
  replace hvs := Lib.hid hvs
  go_enter Try.func71, Try.ntmps71
  go_wp2_with fail
  rw [show ((w.alloc (.cells #[.bool lf, .slice qka K.length qkc, .slice qva V.length qvc, .slice qha H.length qhc, .string hi, .bool bd, .int .i64 nx.1, .int .u64 nx.2] 89)).alloc (.cells #[.bool false, .slice none 0 0, .slice none 0 0, .slice none 0 0, .string ⟨#[]⟩, .bool false, .int .i64 0, .int .u64 0] 89)) = v from hv.out.symm]
  clear hv
  refine (c1.out v hB.out).mono ?_
  rintro e w1 ⟨ka, kc, rfl, r1, b1, o1⟩
  have hbx1 := Below.heap' b1 hbx.out
  have hby1 := Below.heap' b1 hby.out
  have hB1 := hB.out.trans (b1.mono hB.out.size)
  have hs1 := b1.size
  obtain ⟨d0, d1, d2, d3, d4, d5, d6, d7⟩ := node_cells _ _ _ _ _ _ _ _ _ _ _ _ _ _ hbx1
  have f1 : w1.frozen? ⟨w.heap.size, 1, none⟩ = false := frozen_of_heap hbx1 _
  replace r1 := Lib.hid r1
  replace b1 := Lib.hid b1
  replace o1 := Lib.hid o1
  replace hbx1 := Lib.hid hbx1
  replace hby1 := Lib.hid hby1
  replace hB1 := Lib.hid hB1
  clear hbx hby c1
  go_wp2_with fail
  obtain ⟨w2, hw2⟩ : ∃ w2, w2 = w1.setCell ⟨w.heap.size, 1, none⟩ (.slice ka K.length kc) := ⟨_, rfl⟩
  rw [← hw2]
  have hbx2 : w2.heap[w.heap.size]? = some (.cells #[.bool lf, .slice ka K.length kc, .slice qva V.length qvc, .slice qha H.length qhc, .string hi, .bool bd, .int .i64 nx.1, .int .u64 nx.2] 89) := by rw [hw2]; exact heap_set_same hbx1.out 1 _
  have hU2 : Upd [w.heap.size] w1 w2 := by rw [hw2]; exact (Upd.refl _ _).setCell (by simp) _
  have hby2 := hU2.heap hby1.out (by simp)
  have hB2 : Below w.heap.size w w2 := hB1.out.trans (hU2.below hB1.out.size (by simp))
  have r2 := r1.out.upd hU2 (fun b hb => by have := o1.out b hb; have := hvs.out; simp; omega)
  clear hw2 d0 d1 d2 d3 d4 d5 d6 d7 f1
  refine (c2.out w2 hB2).mono ?_
  rintro e w3 ⟨va, vc, rfl, r3, b3, o3⟩
  have hbx3 := Below.heap' b3 hbx2
  have hby3 := Below.heap' b3 hby2
  have hB3 := hB2.trans (b3.mono hB2.size)
  have r4 := r2.below b3
  obtain ⟨d0, d1, d2, d3, d4, d5, d6, d7⟩ := node_cells _ _ _ _ _ _ _ _ _ _ _ _ _ _ hbx3
  have f1 : w3.frozen? ⟨w.heap.size, 2, none⟩ = false := frozen_of_heap hbx3 _
  have hz2 := hU2.size
  have hz3 := b3.size
  have l1 := fun b hb => (r2.lt b hb).2
  replace r3 := Lib.hid r3
  replace b3 := Lib.hid b3
  replace o3 := Lib.hid o3
  replace hbx3 := Lib.hid hbx3
  replace hby3 := Lib.hid hby3
  replace hB3 := Lib.hid hB3
  replace r4 := Lib.hid r4
  replace hz2 := Lib.hid hz2
  replace hz3 := Lib.hid hz3
  replace l1 := Lib.hid l1
  replace hs1 := Lib.hid hs1
  clear hbx1 hby1 hbx2 hby2 hB2 hU2 r1 r2 hB1 hB c2 b1
  go_wp2_with fail
  obtain ⟨w4, hw4⟩ : ∃ w4, w4 = w3.setCell ⟨w.heap.size, 2, none⟩ (.slice va V.length vc) := ⟨_, rfl⟩
  rw [← hw4]
  have hbx4 : w4.heap[w.heap.size]? = some (.cells #[.bool lf, .slice ka K.length kc, .slice va V.length vc, .slice qha H.length qhc, .string hi, .bool bd, .int .i64 nx.1, .int .u64 nx.2] 89) := by rw [hw4]; exact heap_set_same hbx3.out 2 _
  have hU4 : Upd [w.heap.size] w3 w4 := by rw [hw4]; exact (Upd.refl _ _).setCell (by simp) _
  have hby4 := hU4.heap hby3.out (by simp)
  have hB4 : Below w.heap.size w w4 := hB3.out.trans (hU4.below hB3.out.size (by simp))
  have r5 := r4.out.upd hU4 (fun b hb => by have := o1.out b hb; have := hvs.out; simp; omega)
  have r6 := r3.out.upd hU4 (fun b hb => by have := o3.out b hb; have := hvs.out; have := hs1.out; have := hz2.out; simp; omega)
  clear hw4 d0 d1 d2 d3 d4 d5 d6 d7 f1
  refine (c3.out w4 hB4).mono ?_
  rintro e w5 ⟨ha, hc, rfl, r7, b5, o5⟩
  have hbx5 := Below.heap' b5 hbx4
  have hby5 := Below.heap' b5 hby4
  have hB5 := hB4.trans (b5.mono hB4.size)
  have r8 := r5.below b5
  have r9 := r6.below b5
  obtain ⟨d0, d1, d2, d3, d4, d5, d6, d7⟩ := node_cells _ _ _ _ _ _ _ _ _ _ _ _ _ _ hbx5
  obtain ⟨x0, x1, x2, x3, x4, x5, x6, x7⟩ := node_cells _ _ _ _ _ _ _ _ _ _ _ _ _ _ hby5
  have f1 : w5.frozen? ⟨w.heap.size, 3, none⟩ = false := frozen_of_heap hbx5 _
  have y0 : w5.frozen? ⟨w.heap.size + 1, 0, none⟩ = false := frozen_of_heap hby5 _
  have y1 : w5.frozen? ⟨w.heap.size + 1, 1, none⟩ = false := frozen_of_heap hby5 _
  have y2 : w5.frozen? ⟨w.heap.size + 1, 2, none⟩ = false := frozen_of_heap hby5 _
  have y3 : w5.frozen? ⟨w.heap.size + 1, 3, none⟩ = false := frozen_of_heap hby5 _
  have y4 : w5.frozen? ⟨w.heap.size + 1, 4, none⟩ = false := frozen_of_heap hby5 _
  have y5 : w5.frozen? ⟨w.heap.size + 1, 5, none⟩ = false := frozen_of_heap hby5 _
  have y6 : w5.frozen? ⟨w.heap.size + 1, 6, none⟩ = false := frozen_of_heap hby5 _
  have y7 : w5.frozen? ⟨w.heap.size + 1, 7, none⟩ = false := frozen_of_heap hby5 _
  have hz4 := hU4.size
  have hz5 := b5.size
  have l2 := fun b hb => (r6.lt b hb).2
  replace r7 := Lib.hid r7
  replace o5 := Lib.hid o5
  replace hbx5 := Lib.hid hbx5
  replace hby5 := Lib.hid hby5
  replace hB5 := Lib.hid hB5
  replace r8 := Lib.hid r8
  replace r9 := Lib.hid r9
  replace hz4 := Lib.hid hz4
  replace hz5 := Lib.hid hz5
  replace l2 := Lib.hid l2
  clear hbx3 hby3 hbx4 hby4 hB4 hU4 r3 r4 r5 r6 hB3 c3 b3 b5
  go_wp2_with fail
  refine bodyPost_ret (v := .agg #[.bool lf, .slice ka K.length kc, .slice va V.length vc, .slice ha H.length hc, .string hi, .bool bd, .int .i64 nx.1, .int .u64 nx.2]) (by simp [results, Try.results71, go_sem, x0, x1, x2, x3, x4, x5, x6, x7]) rfl ?_
  have hU : ∀ W, Upd [w.heap.size, w.heap.size + 1] w5 W → CloneN ⟨lf, K, V, H, hi, bd, nx⟩ w (.returned (.agg #[.bool lf, .slice ka K.length kc, .slice va V.length vc, .slice ha H.length hc, .string hi, .bool bd, .int .i64 nx.1, .int .u64 nx.2])) W := fun W hU => by
    have hv := hvs.out
    have q1 := hs1.out
    have q2 := hz2.out
    have q3 := hz3.out
    have q4 := hz4.out
    have q5 := hz5.out
    refine ⟨ka, va, ha, kc, vc, hc, rfl, ⟨?_, ?_, ?_, ?_, ?_, ?_⟩, hB5.out.trans (hU.below hB5.out.size (by simp))⟩
    · refine (r8.out.upd hU (fun b hb => ?_)).rebase (fun b hb => ?_)
      · have := o1.out b hb; simp; omega
      · have := o1.out b hb; omega
    · refine (r9.out.upd hU (fun b hb => ?_)).rebase (fun b hb => ?_)
      · have := o3.out b hb; simp; omega
      · have := o3.out b hb; omega
    · refine (r7.out.upd hU (fun b hb => ?_)).rebase (fun b hb => ?_)
      · have := o5.out b hb; simp; omega
      · have := o5.out b hb; omega
    · intro x y hx hy
      have := l1.out x hx; have := o3.out y hy; omega
    · intro x y hx hy
      have := l1.out x hx; have := o5.out y hy; omega
    · intro x y hx hy
      have := l2.out x hx; have := o5.out y hy; omega
  refine hU _ ?_
  repeat refine Upd.setCell ?_ (by simp) _
  exact Upd.refl _ _
end Go.Proofs.Ytlhobbfncjjeaaa
