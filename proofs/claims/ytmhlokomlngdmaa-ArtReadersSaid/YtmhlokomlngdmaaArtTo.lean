/- A new shape that is filled in order: its blocks are the call's own. -/
import Derived.Test.YtmhlokomlngdmaaArtKn
namespace Go.Proofs.Ytmhlokomlngdmaa
open Go.RowKit
theorem kput_snoc {M : KL} {y : UInt8 × Hd} (h : KSort (M ++ [y])) : kget M y.1 = none ∧ kput M y.1 y.2 = M ++ [y] ∧ KSort M := by
  obtain ⟨h1, _, h3⟩ := List.pairwise_append.1 h
  have hl : ∀ z, z ∈ M → z.1 < y.1 := fun z hz => h3 z hz y (by simp)
  refine ⟨kget_none_iff.2 fun z hz e => ?_, ?_, h1⟩
  · have := hl z hz
    rw [e] at this
    exact UInt8.lt_irrefl _ this
  · unfold kput
    rw [filter_all fun z hz => decide_eq_true (hl z hz), filter_none fun z hz => decide_eq_false fun hh => UInt8.lt_irrefl _ (UInt8.lt_trans hh (hl z hz))]
inductive TShape (W : World) (tb : Nat) (M : KL) : List Nat → Value → Prop
  | so (n : Nat) (ka ha : Option Addr) (kc hc : Nat) (h : SoAt W tb n ka ha kc hc M) : TShape W tb M (tb :: (ob ka ++ ob ha)) (.iface 120 (.pointer (some ⟨tb, 0, none⟩)))
  | ix (pl : UInt8 → Nat) (kd : Nat → Hd) (us : List Bool) (h : IxAt W tb pl kd us M) : TShape W tb M [tb] (.iface 125 (.pointer (some ⟨tb, 0, none⟩)))
  | di (h : DiAt W tb M) : TShape W tb M [tb] (.iface 126 (.pointer (some ⟨tb, 0, none⟩)))
/-- 'to' has come to M; its blocks B lie at n0 or beyond. -/
structure TAt (n0 : Nat) (W : World) (tb : Nat) (B : List Nat) (M : KL) (v : Value) : Prop where
  lo : ∀ q, q ∈ B → n0 ≤ q
  sh : TShape W tb M B v
section
variable {n0 tb : Nat} {W W' : World} {B : List Nat} {M : KL} {v : Value}
theorem DiAt.upd {S : List Nat} {db : Nat} {L : KL} (h : DiAt W db L) (hu : Upd S W W') (hS : db ∉ S) : DiAt W' db L := by
  obtain ⟨cur, hc, h1⟩ := h.ex
  exact ⟨cur, hu.heap hc hS, h1⟩
theorem IxAt.upd {S : List Nat} {ib : Nat} {pl : UInt8 → Nat} {kd : Nat → Hd} {us : List Bool} {L : KL} (h : IxAt W ib pl kd us L) (hu : Upd S W W') (hS : ib ∉ S) : IxAt W' ib pl kd us L := by
  obtain ⟨cur, hc, h1⟩ := h.ex
  exact ⟨h.c, cur, hu.heap hc hS, h1⟩
/-- All its blocks are cells. -/
theorem TAt.isCells (h : TAt n0 W tb B M v) : ∀ q, q ∈ B → ∃ c t, W.heap[q]? = some (.cells c t) := by
  cases h.sh with
  | so n ka ha kc hc hs =>
    intro q hq
    rcases List.mem_cons.1 hq with rfl | hq
    · exact ⟨_, _, hs.blk⟩
    · rcases List.mem_append.1 hq with hq | hq
      · obtain ⟨c, hc⟩ := hs.ky.tagB (ob_mem.1 hq); exact ⟨_, _, hc⟩
      · obtain ⟨c, hc⟩ := hs.kd.tagB (ob_mem.1 hq); exact ⟨_, _, hc⟩
  | ix pl kd us hs =>
    intro q hq
    obtain ⟨cur, hc, _⟩ := hs.ex
    rw [List.mem_singleton.1 hq]; exact ⟨_, _, hc⟩
  | di hs =>
    intro q hq
    obtain ⟨cur, hc, _⟩ := hs.ex
    rw [List.mem_singleton.1 hq]; exact ⟨_, _, hc⟩
theorem TAt.upd {S : List Nat} (h : TAt n0 W tb B M v) (hu : Upd S W W') (hS : ∀ q, q ∈ B → q ∉ S) : TAt n0 W' tb B M v := by
  obtain ⟨lo, sh⟩ := h
  refine ⟨lo, ?_⟩
  cases sh with
  | so n ka ha kc hc hs => exact .so n ka ha kc hc (hs.upd hu (hS tb (by simp)) (fun q hq => hS q (by simp [hq])) (fun q hq => hS q (by simp [hq])))
  | ix pl kd us hs => exact .ix pl kd us (hs.upd hu (hS tb (by simp)))
  | di hs => exact .di (hs.upd hu (hS tb (by simp)))
/-- What a set of a child leaves. -/
def TEnd (n0 : Nat) (W : World) (tb : Nat) (B : List Nat) (M : KL) (v : Value) (e : Ending) (W' : World) : Prop := e = .returned (.tuple #[]) ∧ (∃ B', TAt n0 W' tb B' M v ∧ ∀ q, q ∈ B' → q ∈ B ∨ W.heap.size ≤ q) ∧ Upd B W W'
theorem TAt.setSo {b : UInt8} {x : Hd} {n : Nat} {ka ha : Option Addr} {kc hc : Nat} (hlo : ∀ q, q ∈ tb :: (ob ka ++ ob ha) → n0 ≤ q) (h : SoAt W tb n ka ha kc hc M) (hs : KSort M) (hl : M.length ≤ 900) (hn : n0 ≤ W.heap.size) :
    Calls Try.prog 105 #[.pointer (some ⟨tb, 0, none⟩), .int .u8 b.toNat, hV x] W (TEnd n0 W tb (tb :: (ob ka ++ ob ha)) (kput M b x) (.iface 120 (.pointer (some ⟨tb, 0, none⟩)))) := by
  have hc : Calls Try.prog 105 #[.pointer (some ⟨tb, 0, none⟩), .int .u8 b.toNat, hV x] W (SoEnd W tb ka ha (kput M b x)) := by
    cases hg : kget M b with
    | none => exact soSet_new h hs hl b x hg
    | some g => exact soSet_old h hs hl b x (by rw [hg]; rfl)
  refine hc.mono ?_
  rintro e W' ⟨he, n', ka', ha', kc', hc', hs', hu, hb⟩
  refine ⟨he, ⟨_, ⟨fun q hq => ?_, .so n' ka' ha' kc' hc' hs'⟩, fun q hq => ?_⟩, hu⟩
  · rcases List.mem_cons.1 hq with rfl | hq
    · exact hlo _ (by simp)
    · rcases hb q hq with e | e
      · exact hlo q (List.mem_cons_of_mem _ e)
      · omega
  · rcases List.mem_cons.1 hq with rfl | hq
    · exact .inl (by simp)
    · exact (hb q hq).imp (List.mem_cons_of_mem _) id
theorem TAt.setIx {b : UInt8} {x : Hd} {pl : UInt8 → Nat} {kd : Nat → Hd} {us : List Bool} (hlo : n0 ≤ tb) (h : IxAt W tb pl kd us M) (hl : M.length < 48) :
    Calls Try.prog 125 #[.pointer (some ⟨tb, 0, none⟩), .int .u8 b.toNat, hV x] W (TEnd n0 W tb [tb] (kput M b x) (.iface 125 (.pointer (some ⟨tb, 0, none⟩)))) := by
  have hc : Calls Try.prog 125 #[.pointer (some ⟨tb, 0, none⟩), .int .u8 b.toNat, hV x] W (IxEnd W tb (kput M b x)) := by
    cases hp : pl b with
    | zero => exact ixSet_new h hp hl x
    | succ p => exact ixSet_old h hp x
  refine hc.mono ?_
  rintro e W' ⟨he, ⟨pl', kd', us', h'⟩, hu⟩
  exact ⟨he, ⟨_, ⟨fun q hq => by rw [List.mem_singleton.1 hq]; exact hlo, .ix pl' kd' us' h'⟩, fun q hq => .inl hq⟩, hu⟩
theorem TAt.setDi {b : UInt8} {x : Hd} (hlo : n0 ≤ tb) (h : DiAt W tb M) (hs : KSort M) :
    Calls Try.prog 129 #[.pointer (some ⟨tb, 0, none⟩), .int .u8 b.toNat, hV x] W (TEnd n0 W tb [tb] (kput M b x) (.iface 126 (.pointer (some ⟨tb, 0, none⟩)))) := by
  refine (diSet_any h hs b x).mono ?_
  rintro e W' ⟨he, h', hu⟩
  exact ⟨he, ⟨_, ⟨fun q hq => by rw [List.mem_singleton.1 hq]; exact hlo, .di h'⟩, fun q hq => .inl hq⟩, hu⟩
/-- What has come when a row of children was set. -/
def puts (pre : KL) : KL := pre.foldl (fun M y => kput M y.1 y.2) []
theorem puts_snoc (pre : KL) (y : UInt8 × Hd) : puts (pre ++ [y]) = kput (puts pre) y.1 y.2 := by simp [puts]
theorem puts_sort (pre : KL) : KSort (puts pre) ∧ (puts pre).length ≤ pre.length := by
  rcases List.eq_nil_or_concat pre with rfl | ⟨q, y, rfl⟩
  · exact ⟨List.Pairwise.nil, Nat.le_refl _⟩
  · have ih := puts_sort q
    rw [List.concat_eq_append, puts_snoc]
    refine ⟨ks_put ih.1 _ _, ?_⟩
    rw [kput_len ih.1, List.length_append, List.length_singleton]
    split <;> omega
termination_by pre.length
theorem puts_self {L : KL} (h : KSort L) : puts L = L := by
  rcases List.eq_nil_or_concat L with rfl | ⟨q, y, rfl⟩
  · rfl
  · rw [List.concat_eq_append] at h ⊢
    obtain ⟨_, k2, k3⟩ := kput_snoc h
    rw [puts_snoc, puts_self k3, k2]
termination_by L.length
/-! ### New ones -/
theorem rep_flat {α : Type} (a b : α) : ∀ (n i : Nat), i < n → ((List.replicate n [a, b]).flatten)[i * 2]? = some a ∧ ((List.replicate n [a, b]).flatten)[i * 2 + 1]? = some b
  | 0, _, h => by omega
  | n + 1, 0, _ => by rw [List.replicate_succ, List.flatten_cons]; exact ⟨rfl, rfl⟩
  | n + 1, i + 1, h => by
    obtain ⟨h1, h2⟩ := rep_flat a b n i (by omega)
    rw [List.replicate_succ, List.flatten_cons]
    refine ⟨?_, ?_⟩
    · rw [show (i + 1) * 2 = i * 2 + 2 by omega]
      exact h1
    · rw [show (i + 1) * 2 + 1 = i * 2 + 1 + 2 by omega]
      exact h2
theorem rep_flat_len {α : Type} (a b : α) (n : Nat) : ((List.replicate n [a, b]).flatten).length = n * 2 := by
  rw [List.length_flatten, List.map_replicate, List.sum_replicate_nat]
  rfl
theorem zero_ix : Try.zeroCells137 = (List.replicate 256 (Value.int .u8 0) ++ ((List.replicate 48 [Value.int .i64 0, Value.int .u64 0]).flatten ++ List.replicate 48 (Value.bool false))).toArray := by kernel_rfl
theorem zero_di : Try.zeroCells141 = ((List.replicate 256 [Value.int .i64 0, Value.int .u64 0]).flatten ++ List.replicate 256 (Value.bool false)).toArray := by kernel_rfl
set_option maxRecDepth 100000 in
theorem TAt.newIx (hn : n0 ≤ W.heap.size) : TAt n0 (W.alloc (.cells Try.zeroCells137 137)) W.heap.size [W.heap.size] [] (.iface 125 (.pointer (some ⟨W.heap.size, 0, none⟩))) := by
  have hk := heap_alloc_new W (.cells Try.zeroCells137 137)
  refine ⟨fun q hq => by rw [List.mem_singleton.1 hq]; exact hn, .ix (fun _ => 0) (fun _ => (0, 0)) (List.replicate 48 false) ⟨⟨List.Pairwise.nil, fun _ => Nat.zero_le _, List.length_replicate, fun _ => rfl, fun _ _ _ h => absurd rfl h, fun i => ?_, ?_⟩, _, hk, fun b => ?_, fun i hi => ?_, fun i x hx => ?_⟩⟩
  · rw [List.getElem?_replicate]
    constructor
    · intro h
      split at h
      · injection h with h; cases h
      · cases h
    · rintro ⟨_, h⟩; omega
  · rw [List.count_replicate]; rfl
  · have hb : b.toNat < 256 := b.toNat_lt
    rw [zero_ix, List.getElem?_toArray, List.getElem?_append_left (by rw [List.length_replicate]; exact hb), List.getElem?_replicate, if_pos hb]
    rfl
  · obtain ⟨h1, h2⟩ := rep_flat (Value.int .i64 0) (Value.int .u64 0) 48 i hi
    rw [zero_ix, List.getElem?_toArray, List.getElem?_toArray]
    refine ⟨?_, ?_⟩
    · rw [List.getElem?_append_right (by rw [List.length_replicate]; omega), List.length_replicate, List.getElem?_append_left (by rw [rep_flat_len]; omega), show 256 + i * 2 - 256 = i * 2 by omega]
      exact h1
    · rw [List.getElem?_append_right (by rw [List.length_replicate]; omega), List.length_replicate, List.getElem?_append_left (by rw [rep_flat_len]; omega), show 256 + i * 2 + 1 - 256 = i * 2 + 1 by omega]
      exact h2
  · rw [List.getElem?_replicate] at hx
    split at hx
    · next hi =>
      injection hx with hx
      rw [zero_ix, List.getElem?_toArray, List.getElem?_append_right (by rw [List.length_replicate]; omega), List.length_replicate, List.getElem?_append_right (by rw [rep_flat_len]; omega), rep_flat_len, List.getElem?_replicate, if_pos (by omega), hx]
    · cases hx
set_option maxRecDepth 100000 in
theorem TAt.newDi (hn : n0 ≤ W.heap.size) : TAt n0 (W.alloc (.cells Try.zeroCells141 141)) W.heap.size [W.heap.size] [] (.iface 126 (.pointer (some ⟨W.heap.size, 0, none⟩))) := by
  have hk := heap_alloc_new W (.cells Try.zeroCells141 141)
  refine ⟨fun q hq => by rw [List.mem_singleton.1 hq]; exact hn, .di ⟨_, hk, fun b => ?_⟩⟩
  have hb : b.toNat < 256 := b.toNat_lt
  obtain ⟨h1, h2⟩ := rep_flat (Value.int .i64 0) (Value.int .u64 0) 256 b.toNat hb
  rw [zero_di, List.getElem?_toArray, List.getElem?_toArray, List.getElem?_toArray]
  refine ⟨?_, ?_, ?_⟩
  · rw [List.getElem?_append_left (by rw [rep_flat_len]; omega)]
    exact h1
  · rw [List.getElem?_append_left (by rw [rep_flat_len]; omega)]
    exact h2
  · rw [List.getElem?_append_right (by rw [rep_flat_len]; omega), rep_flat_len, List.getElem?_replicate, if_pos (by omega)]
    rfl
theorem TAt.newSo (hn : n0 ≤ W.heap.size) : TAt n0 (W.alloc (.cells #[.slice none 0 0, .slice none 0 0] 122)) W.heap.size [W.heap.size] [] (.iface 120 (.pointer (some ⟨W.heap.size, 0, none⟩))) := by
  have hk := heap_alloc_new W (.cells #[.slice none 0 0, .slice none 0 0] 122)
  exact ⟨fun q hq => by rw [List.mem_singleton.1 hq]; exact hn, .so 0 none none 0 0 ⟨rfl, hk, Row.nil bcel_len bcel_one _ _ _, Row.nil hcel_len hcel_one _ _ _⟩⟩
end
end Go.Proofs.Ytmhlokomlngdmaa
