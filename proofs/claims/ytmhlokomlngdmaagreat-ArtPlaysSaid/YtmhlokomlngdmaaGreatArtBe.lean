/- A new shape that is filled in order: its blocks are the call's own. A node takes another kind. -/
import Derived.Test.YtmhlokomlngdmaaGreatArtKn
import Derived.Test.YtmhlokomlngdmaaGreatArtIm
namespace Go.Proofs.YtmhlokomlngdmaaGreat
open Go.RowKit
theorem kput_snoc {M : KL} {y : UInt8 × Hd} (h : KSort (M ++ [y])) : kget M y.1 = none ∧ kput M y.1 y.2 = M ++ [y] ∧ KSort M := by
  obtain ⟨h1, _, h3⟩ := List.pairwise_append.1 h
  have hl : ∀ z, z ∈ M → z.1 < y.1 := fun z hz => h3 z hz y (by simp)
  refine ⟨kget_none_iff.2 fun z hz e => ?_, ?_, h1⟩
  · have := hl z hz
    rw [e] at this
    exact UInt8.lt_irrefl _ this
  · unfold kput
    rw [filter_all fun z hz => decide_eq_true (hl z hz), filter_none fun z hz => decide_eq_false fun hh => UInt8.lt_irrefl _ (UInt8.lt_trans hh (hl z hz))]
inductive TShape (W : World) (tb : Nat) (M : KL) : List Nat → Value → Prop
  | so (n : Nat) (ka ha : Option Addr) (kc hc : Nat) (h : SoAt W tb n ka ha kc hc M) : TShape W tb M (tb :: (ob ka ++ ob ha)) (.iface 130 (.pointer (some ⟨tb, 0, none⟩)))
  | ix (pl : UInt8 → Nat) (kd : Nat → Hd) (us : List Bool) (h : IxAt W tb pl kd us M) : TShape W tb M [tb] (.iface 152 (.pointer (some ⟨tb, 0, none⟩)))
  | di (h : DiAt W tb M) : TShape W tb M [tb] (.iface 153 (.pointer (some ⟨tb, 0, none⟩)))
/-- 'to' has come to M; its blocks B lie at n0 or beyond. -/
structure TAt (n0 : Nat) (W : World) (tb : Nat) (B : List Nat) (M : KL) (v : Value) : Prop where
  lo : ∀ q, q ∈ B → n0 ≤ q
  sh : TShape W tb M B v
section
variable {n0 tb : Nat} {W W' : World} {B : List Nat} {M : KL} {v : Value}
theorem DiAt.upd {S : List Nat} {db : Nat} {L : KL} (h : DiAt W db L) (hu : Upd S W W') (hS : db ∉ S) : DiAt W' db L := by
  obtain ⟨cur, hc, h1⟩ := h.ex
  exact ⟨cur, hu.heap hc hS, h1⟩
theorem IxAt.upd {S : List Nat} {ib : Nat} {pl : UInt8 → Nat} {kd : Nat → Hd} {us : List Bool} {L : KL} (h : IxAt W ib pl kd us L) (hu : Upd S W W') (hS : ib ∉ S) : IxAt W' ib pl kd us L := by
  obtain ⟨cur, hc, h1⟩ := h.ex
  exact ⟨h.c, cur, hu.heap hc hS, h1⟩
/-- All its blocks are cells. -/
theorem TAt.isCells (h : TAt n0 W tb B M v) : ∀ q, q ∈ B → ∃ c t, W.heap[q]? = some (.cells c t) := by
  cases h.sh with
  | so n ka ha kc hc hs =>
    intro q hq
    rcases List.mem_cons.1 hq with rfl | hq
    · exact ⟨_, _, hs.blk⟩
    · rcases List.mem_append.1 hq with hq | hq
      · obtain ⟨c, hc⟩ := hs.ky.tagB (ob_mem.1 hq); exact ⟨_, _, hc⟩
      · obtain ⟨c, hc⟩ := hs.kd.tagB (ob_mem.1 hq); exact ⟨_, _, hc⟩
  | ix pl kd us hs =>
    intro q hq
    obtain ⟨cur, hc, _⟩ := hs.ex
    rw [List.mem_singleton.1 hq]; exact ⟨_, _, hc⟩
  | di hs =>
    intro q hq
    obtain ⟨cur, hc, _⟩ := hs.ex
    rw [List.mem_singleton.1 hq]; exact ⟨_, _, hc⟩
theorem TAt.upd {S : List Nat} (h : TAt n0 W tb B M v) (hu : Upd S W W') (hS : ∀ q, q ∈ B → q ∉ S) : TAt n0 W' tb B M v := by
  obtain ⟨lo, sh⟩ := h
  refine ⟨lo, ?_⟩
  cases sh with
  | so n ka ha kc hc hs => exact .so n ka ha kc hc (hs.upd hu (hS tb (by simp)) (fun q hq => hS q (by simp [hq])) (fun q hq => hS q (by simp [hq])))
  | ix pl kd us hs => exact .ix pl kd us (hs.upd hu (hS tb (by simp)))
  | di hs => exact .di (hs.upd hu (hS tb (by simp)))
/-- What a set of a child leaves. -/
def TEnd (n0 : Nat) (W : World) (tb : Nat) (B : List Nat) (M : KL) (v : Value) (e : Ending) (W' : World) : Prop := e = .returned (.tuple #[]) ∧ (∃ B', TAt n0 W' tb B' M v ∧ ∀ q, q ∈ B' → q ∈ B ∨ W.heap.size ≤ q) ∧ Upd B W W'
theorem TAt.setSo {b : UInt8} {x : Hd} {n : Nat} {ka ha : Option Addr} {kc hc : Nat} (hlo : ∀ q, q ∈ tb :: (ob ka ++ ob ha) → n0 ≤ q) (h : SoAt W tb n ka ha kc hc M) (hs : KSort M) (hl : M.length ≤ 900) (hn : n0 ≤ W.heap.size) :
    Calls Tryz.prog 122 #[.pointer (some ⟨tb, 0, none⟩), .int .u8 b.toNat, hV x] W (TEnd n0 W tb (tb :: (ob ka ++ ob ha)) (kput M b x) (.iface 130 (.pointer (some ⟨tb, 0, none⟩)))) := by
  have hc : Calls Tryz.prog 122 #[.pointer (some ⟨tb, 0, none⟩), .int .u8 b.toNat, hV x] W (SoEnd W tb ka ha (kput M b x)) := by
    cases hg : kget M b with
    | none => exact soSet_new h hs hl b x hg
    | some g => exact soSet_old h hs hl b x (by rw [hg]; rfl)
  refine hc.mono ?_
  rintro e W' ⟨he, n', ka', ha', kc', hc', hs', hu, hb⟩
  refine ⟨he, ⟨_, ⟨fun q hq => ?_, .so n' ka' ha' kc' hc' hs'⟩, fun q hq => ?_⟩, hu⟩
  · rcases List.mem_cons.1 hq with rfl | hq
    · exact hlo _ (by simp)
    · rcases hb q hq with e | e
      · exact hlo q (List.mem_cons_of_mem _ e)
      · omega
  · rcases List.mem_cons.1 hq with rfl | hq
    · exact .inl (by simp)
    · exact (hb q hq).imp (List.mem_cons_of_mem _) id
theorem TAt.setIx {b : UInt8} {x : Hd} {pl : UInt8 → Nat} {kd : Nat → Hd} {us : List Bool} (hlo : n0 ≤ tb) (h : IxAt W tb pl kd us M) (hl : M.length < 48) :
    Calls Tryz.prog 142 #[.pointer (some ⟨tb, 0, none⟩), .int .u8 b.toNat, hV x] W (TEnd n0 W tb [tb] (kput M b x) (.iface 152 (.pointer (some ⟨tb, 0, none⟩)))) := by
  have hc : Calls Tryz.prog 142 #[.pointer (some ⟨tb, 0, none⟩), .int .u8 b.toNat, hV x] W (IxEnd W tb (kput M b x)) := by
    cases hp : pl b with
    | zero => exact ixSet_new h hp hl x
    | succ p => exact ixSet_old h hp x
  refine hc.mono ?_
  rintro e W' ⟨he, ⟨pl', kd', us', h'⟩, hu⟩
  exact ⟨he, ⟨_, ⟨fun q hq => by rw [List.mem_singleton.1 hq]; exact hlo, .ix pl' kd' us' h'⟩, fun q hq => .inl hq⟩, hu⟩
theorem TAt.setDi {b : UInt8} {x : Hd} (hlo : n0 ≤ tb) (h : DiAt W tb M) (hs : KSort M) :
    Calls Tryz.prog 146 #[.pointer (some ⟨tb, 0, none⟩), .int .u8 b.toNat, hV x] W (TEnd n0 W tb [tb] (kput M b x) (.iface 153 (.pointer (some ⟨tb, 0, none⟩)))) := by
  refine (diSet_any h hs b x).mono ?_
  rintro e W' ⟨he, h', hu⟩
  exact ⟨he, ⟨_, ⟨fun q hq => by rw [List.mem_singleton.1 hq]; exact hlo, .di h'⟩, fun q hq => .inl hq⟩, hu⟩
/-- What has come when a row of children was set. -/
def puts (pre : KL) : KL := pre.foldl (fun M y => kput M y.1 y.2) []
theorem puts_snoc (pre : KL) (y : UInt8 × Hd) : puts (pre ++ [y]) = kput (puts pre) y.1 y.2 := by simp [puts]
theorem puts_sort (pre : KL) : KSort (puts pre) ∧ (puts pre).length ≤ pre.length := by
  rcases List.eq_nil_or_concat pre with rfl | ⟨q, y, rfl⟩
  · exact ⟨List.Pairwise.nil, Nat.le_refl _⟩
  · have ih := puts_sort q
    rw [List.concat_eq_append, puts_snoc]
    refine ⟨ks_put ih.1 _ _, ?_⟩
    rw [kput_len ih.1, List.length_append, List.length_singleton]
    split <;> omega
termination_by pre.length
theorem puts_self {L : KL} (h : KSort L) : puts L = L := by
  rcases List.eq_nil_or_concat L with rfl | ⟨q, y, rfl⟩
  · rfl
  · rw [List.concat_eq_append] at h ⊢
    obtain ⟨_, k2, k3⟩ := kput_snoc h
    rw [puts_snoc, puts_self k3, k2]
termination_by L.length
/-! ### New ones -/
theorem rep_flat {α : Type} (a b : α) : ∀ (n i : Nat), i < n → ((List.replicate n [a, b]).flatten)[i * 2]? = some a ∧ ((List.replicate n [a, b]).flatten)[i * 2 + 1]? = some b
  | 0, _, h => by omega
  | n + 1, 0, _ => by rw [List.replicate_succ, List.flatten_cons]; exact ⟨rfl, rfl⟩
  | n + 1, i + 1, h => by
    obtain ⟨h1, h2⟩ := rep_flat a b n i (by omega)
    rw [List.replicate_succ, List.flatten_cons]
    refine ⟨?_, ?_⟩
    · rw [show (i + 1) * 2 = i * 2 + 2 by omega]
      exact h1
    · rw [show (i + 1) * 2 + 1 = i * 2 + 1 + 2 by omega]
      exact h2
theorem rep_flat_len {α : Type} (a b : α) (n : Nat) : ((List.replicate n [a, b]).flatten).length = n * 2 := by
  rw [List.length_flatten, List.map_replicate, List.sum_replicate_nat]
  rfl
theorem zero_ix : Tryz.zeroCells164 = (List.replicate 256 (Value.int .u8 0) ++ ((List.replicate 48 [Value.int .i64 0, Value.int .u64 0]).flatten ++ List.replicate 48 (Value.bool false))).toArray := by kernel_rfl
theorem zero_di : Tryz.zeroCells168 = ((List.replicate 256 [Value.int .i64 0, Value.int .u64 0]).flatten ++ List.replicate 256 (Value.bool false)).toArray := by kernel_rfl
set_option maxRecDepth 100000 in
theorem TAt.newIx (hn : n0 ≤ W.heap.size) : TAt n0 (W.alloc (.cells Tryz.zeroCells164 164)) W.heap.size [W.heap.size] [] (.iface 152 (.pointer (some ⟨W.heap.size, 0, none⟩))) := by
  have hk := heap_alloc_new W (.cells Tryz.zeroCells164 164)
  refine ⟨fun q hq => by rw [List.mem_singleton.1 hq]; exact hn, .ix (fun _ => 0) (fun _ => (0, 0)) (List.replicate 48 false) ⟨⟨List.Pairwise.nil, fun _ => Nat.zero_le _, List.length_replicate, fun _ => rfl, fun _ _ _ h => absurd rfl h, fun i => ?_, ?_⟩, _, hk, fun b => ?_, fun i hi => ?_, fun i x hx => ?_⟩⟩
  · rw [List.getElem?_replicate]
    constructor
    · intro h
      split at h
      · injection h with h; cases h
      · cases h
    · rintro ⟨_, h⟩; omega
  · rw [List.count_replicate]; rfl
  · have hb : b.toNat < 256 := b.toNat_lt
    rw [zero_ix, List.getElem?_toArray, List.getElem?_append_left (by rw [List.length_replicate]; exact hb), List.getElem?_replicate, if_pos hb]
    rfl
  · obtain ⟨h1, h2⟩ := rep_flat (Value.int .i64 0) (Value.int .u64 0) 48 i hi
    rw [zero_ix, List.getElem?_toArray, List.getElem?_toArray]
    refine ⟨?_, ?_⟩
    · rw [List.getElem?_append_right (by rw [List.length_replicate]; omega), List.length_replicate, List.getElem?_append_left (by rw [rep_flat_len]; omega), show 256 + i * 2 - 256 = i * 2 by omega]
      exact h1
    · rw [List.getElem?_append_right (by rw [List.length_replicate]; omega), List.length_replicate, List.getElem?_append_left (by rw [rep_flat_len]; omega), show 256 + i * 2 + 1 - 256 = i * 2 + 1 by omega]
      exact h2
  · rw [List.getElem?_replicate] at hx
    split at hx
    · next hi =>
      injection hx with hx
      rw [zero_ix, List.getElem?_toArray, List.getElem?_append_right (by rw [List.length_replicate]; omega), List.length_replicate, List.getElem?_append_right (by rw [rep_flat_len]; omega), rep_flat_len, List.getElem?_replicate, if_pos (by omega), hx]
    · cases hx
set_option maxRecDepth 100000 in
theorem TAt.newDi (hn : n0 ≤ W.heap.size) : TAt n0 (W.alloc (.cells Tryz.zeroCells168 168)) W.heap.size [W.heap.size] [] (.iface 153 (.pointer (some ⟨W.heap.size, 0, none⟩))) := by
  have hk := heap_alloc_new W (.cells Tryz.zeroCells168 168)
  refine ⟨fun q hq => by rw [List.mem_singleton.1 hq]; exact hn, .di ⟨_, hk, fun b => ?_⟩⟩
  have hb : b.toNat < 256 := b.toNat_lt
  obtain ⟨h1, h2⟩ := rep_flat (Value.int .i64 0) (Value.int .u64 0) 256 b.toNat hb
  rw [zero_di, List.getElem?_toArray, List.getElem?_toArray, List.getElem?_toArray]
  refine ⟨?_, ?_, ?_⟩
  · rw [List.getElem?_append_left (by rw [rep_flat_len]; omega)]
    exact h1
  · rw [List.getElem?_append_left (by rw [rep_flat_len]; omega)]
    exact h2
  · rw [List.getElem?_append_right (by rw [rep_flat_len]; omega), rep_flat_len, List.getElem?_replicate, if_pos (by omega)]
    rfl
theorem TAt.newSo (hn : n0 ≤ W.heap.size) : TAt n0 (W.alloc (.cells #[.slice none 0 0, .slice none 0 0] 132)) W.heap.size [W.heap.size] [] (.iface 130 (.pointer (some ⟨W.heap.size, 0, none⟩))) := by
  have hk := heap_alloc_new W (.cells #[.slice none 0 0, .slice none 0 0] 132)
  exact ⟨fun q hq => by rw [List.mem_singleton.1 hq]; exact hn, .so 0 none none 0 0 ⟨rfl, hk, Row.nil bcel_len bcel_one _ _ _, Row.nil hcel_len hcel_one _ _ _⟩⟩
end
end Go.Proofs.YtmhlokomlngdmaaGreat
namespace Go.Proofs.YtmhlokomlngdmaaGreat
open Go.RowKit Go.Shelf
attribute [local go_sem] Oper.semAt_some
/-- Whatever abides the turn of blocks that are no cells. -/
theorem grown_upd {W W' : World} {row : Option Nat} (hg : W.grownBy W' row) : Upd row.toList W W' := by
  obtain ⟨a, b, c, d, e⟩ := hg
  exact ⟨a, b, c, d, fun k hk hn => e k hk (fun h => hn (by rw [← h]; simp))⟩
theorem noCells {W : World} {row : Option Nat} (hr : ∀ r, row = some r → ∃ o : Obj, W.heap[r]? = some o ∧ o.isCells = false) {q : Nat} {c : Array Value} {t : TypeId} (hq : W.heap[q]? = some (.cells c t)) : q ∉ row.toList := fun h => by
  have h' : row = some q := by simpa using h
  obtain ⟨o, h1, h2⟩ := hr q h'
  rw [hq] at h1
  injection h1 with h1
  rw [← h1] at h2
  cases h2
/-- Between two rounds. -/
structure BeI (w w3 : World) (tb : Nat) (Bk : List Nat) (v : Value) (pre : KL) (W : World) : Prop where
  tt : ∃ B, TAt (w.heap.size + 1) W tb B (puts pre) v ∧ ∀ q, q ∈ B → q ∉ Bk
  bel : Below w.heap.size w W
  box : W.heap[w.heap.size]? = some (.cells #[v] 134)
  sz : w3.heap.size ≤ W.heap.size
theorem BeI.own {w w3 : World} {tb : Nat} {Bk : List Nat} {v : Value} (hw : w.heap.size ≤ w3.heap.size) : OwnFrom w3.heap.size (BeI w w3 tb Bk v) := fun pre W W' row h hg hr => by
  have hu := grown_upd hg
  have hr2 := fun r e => (hr r e).2
  obtain ⟨B, hT, hB⟩ := h.tt
  refine ⟨⟨B, hT.upd hu fun q hq => ?_, hB⟩, below_upd h.bel hu fun q hq => ?_, hu.heap h.box (noCells hr2 h.box), Nat.le_trans h.sz hg.size⟩
  · obtain ⟨c, t, hc⟩ := hT.isCells q hq
    exact noCells hr2 hc
  · have := (hr q (by simpa using hq)).1
    omega
theorem below_keepsFrom {S : List Nat} {n : Nat} {W W' : World} (hu : Upd S W W') (hS : ∀ q, q ∈ S → ∃ c t, W.heap[q]? = some (.cells c t)) : KeepsFrom n W W' :=
  ⟨hu.size, fun k o _ hk ho => (hu.heap hk fun hq => by
    obtain ⟨c, t, hc⟩ := hS k hq
    rw [hk] at hc
    injection hc with hc
    rw [hc] at ho
    cases ho)⟩
theorem KpL.putObj {Bk : List Nat} {n : Nat} (hB : ∀ q, q ∈ Bk → q < n) (W : World) (l : Nat) (o' : Obj) (hl : n ≤ l) : KpL Bk W (W.putObj l o') := fun q hq => World.putObj_heap_other (by have := hB q hq; omega)
theorem upd_end (W : World) (nb D : Nat) (u v : Value) (o : Obj) : Upd [nb, D] W (((W.setCell ⟨nb, 0, none⟩ u).setCell ⟨nb, 1, none⟩ v).putObj D o) := by
  have h1 : Upd [nb, D] W ((W.setCell ⟨nb, 0, none⟩ u).setCell ⟨nb, 1, none⟩ v) := ((Upd.refl [nb, D] W).setCell (p := ⟨nb, 0, none⟩) (by simp) u).setCell (p := ⟨nb, 1, none⟩) (by simp) v
  exact h1.trans ((grown_upd (grownBy_putObj' _ D o)).mono (by simp))
def BeEnd (w : World) (nb : Nat) (L : KL) (K : Nat) (e : Ending) (w' : World) : Prop := e = .returned (.tuple #[]) ∧ (∃ B' sb v, w'.heap[nb]? = some (.cells #[v, .int .i64 (K : Nat), .int .i64 L.length] 136) ∧ KShape w' nb sb B' L v K ∧ ∀ q, q ∈ B' → q = nb ∨ w.heap.size ≤ q) ∧ Upd [nb] w w'
set_option maxRecDepth 100000 in
set_option maxHeartbeats 2000000 in
theorem be48 {w : World} {nb : Nat} {B : List Nat} {L : KL} (h : KAt w nb B L) (hl : L.length ≤ 48) : Calls Tryz.prog 72 #[.pointer (some ⟨nb, 0, none⟩), .int .i64 48] w (BeEnd w nb L 48) := by
  obtain ⟨v, hv⟩ : ∃ v, v = Value.iface 152 (.pointer (some ⟨w.heap.size + 1, 0, none⟩)) := ⟨_, rfl⟩
  have hB1 : Below w.heap.size w (w.alloc (.cells #[v] 134)) := (Below.refl _ _).alloc (Nat.le_refl _) _
  have hB2 : Below w.heap.size w ((w.alloc (.cells #[v] 134)).alloc (.cells Tryz.zeroCells164 164)) := hB1.alloc hB1.size _
  have hT0 := TAt.newIx (n0 := w.heap.size + 1) (W := w.alloc (.cells #[v] 134)) (by rw [World.size_alloc]; exact Nat.le_refl _)
  rw [World.size_alloc] at hT0
  have hbx := Below.heap' ((Below.refl (w.alloc (.cells #[v] 134)).heap.size _).alloc (Nat.le_refl _) (.cells Tryz.zeroCells164 164)) (heap_alloc_new w (.cells #[v] 134))
  have hAll := anAll_any (h.below hB2)
  have hs2 : ((w.alloc (.cells #[v] 134)).alloc (.cells Tryz.zeroCells164 164)).heap.size = w.heap.size + 2 := by simp
  refine (callsIn_wide (n := 6)).1 ?_
  refine callsIn_of_wp_marks Tryz.func72 rfl trivial ?_ rfl
  simp only [Tryz.ntmps72, List.size_toArray, List.length_cons, List.length_nil, Nat.reduceAdd, Nat.reduceSub, Array.replicate_succ, Array.replicate_zero, List.push_toArray, List.append_toArray, List.nil_append, List.cons_append]
  subst hv
  replace hT0 := Lib.hid hT0
  replace hbx := Lib.hid hbx
  replace hAll := Lib.hid hAll
  replace hs2 := Lib.hid hs2
  replace hB2 := Lib.hid hB2
  have hh := Lib.hid h
  clear h hB1
  gi_wp2
  refine ⟨trivial, ?_⟩
  generalize (w.alloc (.cells #[.iface 152 (.pointer (some ⟨w.heap.size + 1, 0, none⟩))] 134)).alloc (.cells Tryz.zeroCells164 164) = W2 at *
  refine (callsIn_wide.2 hAll.out).mono ?_
  clear hAll
  rintro e w3 ⟨kx, hx, va, vh, rfl, hM⟩
  have hb3 := hM.bel
  have hks := hh.out.ks
  have hstop := anAll1_stops Fence.wide 5 trivial rfl (by omega) hM (by omega)
  have hBk : ∀ q, q ∈ bkL kx hx va vh → W2.heap.size ≤ q ∧ q < w3.heap.size := fun q hq => by
    unfold bkL at hq
    rcases List.mem_cons.1 hq with rfl | hq
    · exact ⟨hM.lx.1, heap_lt hM.bk⟩
    · rcases List.mem_cons.1 hq with rfl | hq
      · exact ⟨hM.lx.2, heap_lt hM.bh⟩
      · rcases List.mem_append.1 hq with hq | hq
        · exact hM.ky.lt q (by simpa using hq)
        · exact hM.kd.lt q (by simpa using hq)
  have hbw : Below w.heap.size w w3 := hB2.out.trans (hb3.mono hB2.out.size)
  have hI0 : BeI w w3 (w.heap.size + 1) (bkL kx hx va vh) (.iface 152 (.pointer (some ⟨w.heap.size + 1, 0, none⟩))) [] w3 := by
    refine ⟨⟨[w.heap.size + 1], hT0.out.upd (Upd.of_below (S := []) hb3) (by simp), fun q hq hq' => ?_⟩, hbw, Below.heap' hb3 hbx.out, Nat.le_refl _⟩
    have h1 := (hBk q hq').1
    rw [List.mem_singleton.1 hq, hs2.out] at h1
    omega
  have hown : OwnFrom w3.heap.size (BeI w w3 (w.heap.size + 1) (bkL kx hx va vh) (.iface 152 (.pointer (some ⟨w.heap.size + 1, 0, none⟩)))) := BeI.own hbw.size
  replace hT0 := Lib.hid hT0
  replace hI0 := Lib.hid hI0
  replace hM := Lib.hid hM
  gi_wp2
  refine wpIn_rangeFunc_ownH (a := _) (w := w3) rfl (by omega) (gf := 67) (lb := #[.pointer (some ⟨kx, 0, none⟩), .pointer (some ⟨hx, 0, none⟩)]) rfl trivial (enters_of Tryz.func67 (by kernel_rfl) rfl) hstop KpL.trans (fun W l o o' h1 _ _ _ => KpL.putObj (fun q hq => (hBk q hq).2) W l o' h1) (Below.refl _ _) (fun _ => rfl)
    (BeI w w3 (w.heap.size + 1) (bkL kx hx va vh) (.iface 152 (.pointer (some ⟨w.heap.size + 1, 0, none⟩)))) (fun _ _ _ => False) hown (fun _ _ _ _ _ hs _ _ => hs) hI0.out
    (fun y a' W => ∃ Bx, w3.heap.size ≤ Bx ∧ W.heap[Bx]? = some (.cells #[.int .i64 y.2.1, .int .u64 y.2.2] 77) ∧ a' = { tmps := #[.pointer (some ⟨nb, 0, none⟩), .int .i64 48, undef, undef, .pointer (some ⟨w.heap.size, 0, none⟩), undef, undef, .int .u8 y.1.toNat, .pointer (some ⟨Bx, 0, none⟩), .int .i64 48, undef, undef, undef, undef, undef, undef, undef, undef, undef, undef, undef, undef, undef, undef, undef, undef, .bool true, .bool true, .agg Tryz.zeroCells164, .pointer (some ⟨w.heap.size + 1, 0, none⟩), .iface 152 (.pointer (some ⟨w.heap.size + 1, 0, none⟩)), undef, undef, undef, undef, undef, .pointer (some ⟨nb, 0, none⟩), .func (.func 67) #[] #[.pointer (some ⟨kx, 0, none⟩), .pointer (some ⟨hx, 0, none⟩)], .int .u8 y.1.toNat, hV y.2, undef, undef, undef, undef, undef, undef, undef, undef, undef, undef, undef, undef], defers := [] })
    (fun y a' _ X Y row hs hg hr => by obtain ⟨Bx, h1, h2, h3⟩ := hs; exact ⟨Bx, h1, (grown_upd hg).heap h2 (noCells (fun r e => (hr r e).2) h2), h3⟩)
    ?assign ?body ?done ?stop
  case assign =>
    intro l pre y W K hI hK
    have hal : Below W.heap.size W (W.alloc (.cells #[.int .i64 y.2.1, .int .u64 y.2.2] 77)) := (Below.refl _ _).alloc (Nat.le_refl _) _
    have hal2 : Upd [] W (W.alloc (.cells #[.int .i64 y.2.1, .int .u64 y.2.2] 77)) := Upd.of_below hal
    gi_wp2
    refine hK _ _ ((KeepsOthers.alloc _ _).from _) (fun q hq => hal2.block q (Nat.lt_of_lt_of_le (hBk q hq).2 hI.sz) (by simp)) ?_ ⟨W.heap.size, hI.sz, heap_alloc_new _ _, rfl⟩
    obtain ⟨Bt, hT, hd⟩ := hI.tt
    exact ⟨⟨Bt, hT.upd hal2 (by simp), hd⟩, hI.bel.trans (hal.mono hI.bel.size), hal2.heap hI.box (by simp), Nat.le_trans hI.sz hal.size⟩
  case body =>
    rintro l pre y a' W hl0 ⟨r, hr⟩ hI ⟨Bx, hBx, hbox, rfl⟩ hlt
    obtain ⟨Bt, hT, hd⟩ := hI.tt
    have hcl := hT.isCells
    have hlo := hT.lo
    obtain ⟨hps, hpl⟩ := puts_sort pre
    have c0 : W.cell? ⟨w.heap.size, 0, none⟩ = some (.iface 152 (.pointer (some ⟨w.heap.size + 1, 0, none⟩))) := by rw [cell_of_heap hI.box]; rfl
    have hq0 := heap_lt hI.box
    obtain ⟨z0, z1⟩ := box2 hbox
    have zl := heap_lt hbox
    cases hT.sh with
    | ix pl kd us hix =>
      have hc := Lib.hid (TAt.setIx (b := y.1) (x := y.2) (hlo _ (by simp)) hix (by omega))
      have hfin : Hid (∀ W', (∃ B', TAt (w.heap.size + 1) W' (w.heap.size + 1) B' (kput (puts pre) y.1 y.2) (.iface 152 (.pointer (some ⟨w.heap.size + 1, 0, none⟩))) ∧ ∀ q, q ∈ B' → q ∈ [w.heap.size + 1] ∨ W.heap.size ≤ q) → Upd [w.heap.size + 1] W W' → KeepsFrom w3.heap.size W W' ∧ KpL (bkL kx hx va vh) W W' ∧ BeI w w3 (w.heap.size + 1) (bkL kx hx va vh) (.iface 152 (.pointer (some ⟨w.heap.size + 1, 0, none⟩))) (pre ++ [y]) W') := Lib.hid fun W' ⟨B', hT', hb'⟩ hu => by
        refine ⟨below_keepsFrom hu hcl, fun q hq => hu.block q (Nat.lt_of_lt_of_le (hBk q hq).2 hI.sz) (fun hq' => hd q hq' hq), ⟨B', by rw [puts_snoc]; exact hT', fun q hq hq' => ?_⟩, below_upd hI.bel hu (fun q hq => by have := hlo q hq; omega), hu.heap hI.box (fun hq => by have := hlo _ hq; omega), Nat.le_trans hI.sz hu.size⟩
        rcases hb' q hq with e | e
        · exact hd q e hq'
        · have := (hBk q hq').2
          have := hI.sz
          omega
      clear hI hT hd hcl hlo hix hbox hBk hown hstop hr
      gi_wp2
      refine ⟨fun _ _ => trivial, ?_⟩
      go_invoke
      gi_wp2
      refine (CallsIn.inRound l (callsIn_wide.2 hc.out)).mono ?_
      clear hc
      rintro e W' ⟨rfl, hT', hu⟩
      gi_wp2
      exact hfin.out W' hT' hu
  case done =>
    rintro D xs W hD rfl hI hK
    obtain ⟨Bt, hT, hd⟩ := hI.tt
    obtain ⟨t, a, kind, hnode⟩ := hh.out.node
    have hnodeW := Below.heap' hI.bel hnode
    obtain ⟨n0, n1⟩ : W.cell? ⟨nb, 0, none⟩ = some (.iface t (.pointer (some a))) ∧ W.cell? ⟨nb, 1, none⟩ = some (.int .i64 (kind : Nat)) := ⟨by rw [cell_of_heap hnodeW]; rfl, by rw [cell_of_heap hnodeW]; rfl⟩
    have f0 := frozen_of_heap hnodeW 0
    have f1 := frozen_of_heap hnodeW 1
    have nl := heap_lt hnodeW
    have c0 : W.cell? ⟨w.heap.size, 0, none⟩ = some (.iface 152 (.pointer (some ⟨w.heap.size + 1, 0, none⟩))) := by rw [cell_of_heap hI.box]; rfl
    have hq0 := heap_lt hI.box
    have hne : nb ≠ w.heap.size := Nat.ne_of_lt (heap_lt hnode)
    have hDn : nb ≠ D := by have := hbw.size; have := heap_lt hnode; omega
    have hfin : Hid (∀ W', Upd [nb, D] W W' → W'.heap[nb]? = some (.cells #[.iface 152 (.pointer (some ⟨w.heap.size + 1, 0, none⟩)), .int .i64 48, .int .i64 xs.length] 136) → BeEnd w nb xs 48 (.returned (.tuple #[])) W') := Lib.hid fun W' hu hk => by
      have hT' := hT.upd hu fun q hq hq' => by
        obtain ⟨c, t, hc⟩ := hT.isCells q hq
        have := hT.lo q hq
        have := heap_lt hnode
        simp at hq'
        rcases hq' with rfl | rfl
        · omega
        · rw [hK] at hc; cases hc
      refine ⟨rfl, ⟨nb :: Bt, w.heap.size + 1, _, hk, ?_, fun q hq => ?_⟩, ?_⟩
      · rw [puts_self hks] at hT'
        cases hT'.sh with
        | ix pl kd us hix => exact .ix hl pl kd us hix rfl
      · rcases List.mem_cons.1 hq with e | e
        · exact .inl e
        · exact .inr (by have := hT.lo q e; omega)
      · have hb := Upd.of_below (S := [nb]) hI.bel
        refine ⟨hu.os.trans hb.os, hu.tape.trans hb.tape, hu.output.trans hb.output, Nat.le_trans hb.size hu.size, fun k hk hn => ?_⟩
        rw [← hb.block k hk hn]
        exact hu.block k (Nat.lt_of_lt_of_le hk hb.size) (by simp at hn ⊢; exact ⟨hn, by have := hbw.size; omega⟩)
    have hlw : Hid (W.heap[nb]? = some (.cells #[.iface t (.pointer (some a)), .int .i64 (kind : Nat), .int .i64 xs.length] 136)) := Lib.hid hnodeW
    clear hnodeW hnode hI hT hd hBk hown hstop hks
    gi_wp2
    refine ⟨by simp, .inl ⟨_, _, rfl, run_takeDeferred (by rw [heap_set_other _ _ (by simpa using Ne.symm hDn), heap_set_other _ _ (by simpa using Ne.symm hDn)]; exact hK), ?_⟩⟩
    refine ⟨_, results_none rfl _ _ _, hfin.out _ ?_ ?_⟩
    · exact upd_end W nb D _ _ _
    · rw [World.putObj_heap_other hDn, heap_self, heap_self, hlw.out]
      rfl
  case stop =>
    rintro D c pre W _ _ hx _
    exact hx.elim
-- <<printed
set_option maxRecDepth 100000 in
set_option maxHeartbeats 2000000 in
theorem be256 {w : World} {nb : Nat} {B : List Nat} {L : KL} (h : KAt w nb B L) (hl : L.length ≤ 256) : Calls Tryz.prog 72 #[.pointer (some ⟨nb, 0, none⟩), .int .i64 256] w (BeEnd w nb L 256) := by
  obtain ⟨v, hv⟩ : ∃ v, v = Value.iface 153 (.pointer (some ⟨w.heap.size + 1, 0, none⟩)) := ⟨_, rfl⟩
  have hB1 : Below w.heap.size w (w.alloc (.cells #[v] 134)) := (Below.refl _ _).alloc (Nat.le_refl _) _
  have hB2 : Below w.heap.size w ((w.alloc (.cells #[v] 134)).alloc (.cells Tryz.zeroCells168 168)) := hB1.alloc hB1.size _
  have hT0 := TAt.newDi (n0 := w.heap.size + 1) (W := w.alloc (.cells #[v] 134)) (by rw [World.size_alloc]; exact Nat.le_refl _)
  rw [World.size_alloc] at hT0
  have hbx := Below.heap' ((Below.refl (w.alloc (.cells #[v] 134)).heap.size _).alloc (Nat.le_refl _) (.cells Tryz.zeroCells168 168)) (heap_alloc_new w (.cells #[v] 134))
  have hAll := anAll_any (h.below hB2)
  have hs2 : ((w.alloc (.cells #[v] 134)).alloc (.cells Tryz.zeroCells168 168)).heap.size = w.heap.size + 2 := by simp
  refine (callsIn_wide (n := 6)).1 ?_
  refine callsIn_of_wp_marks Tryz.func72 rfl trivial ?_ rfl
  simp only [Tryz.ntmps72, List.size_toArray, List.length_cons, List.length_nil, Nat.reduceAdd, Nat.reduceSub, Array.replicate_succ, Array.replicate_zero, List.push_toArray, List.append_toArray, List.nil_append, List.cons_append]
  subst hv
  replace hT0 := Lib.hid hT0
  replace hbx := Lib.hid hbx
  replace hAll := Lib.hid hAll
  replace hs2 := Lib.hid hs2
  replace hB2 := Lib.hid hB2
  have hh := Lib.hid h
  clear h hB1
  gi_wp2
  refine ⟨trivial, ?_⟩
  generalize (w.alloc (.cells #[.iface 153 (.pointer (some ⟨w.heap.size + 1, 0, none⟩))] 134)).alloc (.cells Tryz.zeroCells168 168) = W2 at *
  refine (callsIn_wide.2 hAll.out).mono ?_
  clear hAll
  rintro e w3 ⟨kx, hx, va, vh, rfl, hM⟩
  have hb3 := hM.bel
  have hks := hh.out.ks
  have hstop := anAll1_stops Fence.wide 5 trivial rfl (by omega) hM (by omega)
  have hBk : ∀ q, q ∈ bkL kx hx va vh → W2.heap.size ≤ q ∧ q < w3.heap.size := fun q hq => by
    unfold bkL at hq
    rcases List.mem_cons.1 hq with rfl | hq
    · exact ⟨hM.lx.1, heap_lt hM.bk⟩
    · rcases List.mem_cons.1 hq with rfl | hq
      · exact ⟨hM.lx.2, heap_lt hM.bh⟩
      · rcases List.mem_append.1 hq with hq | hq
        · exact hM.ky.lt q (by simpa using hq)
        · exact hM.kd.lt q (by simpa using hq)
  have hbw : Below w.heap.size w w3 := hB2.out.trans (hb3.mono hB2.out.size)
  have hI0 : BeI w w3 (w.heap.size + 1) (bkL kx hx va vh) (.iface 153 (.pointer (some ⟨w.heap.size + 1, 0, none⟩))) [] w3 := by
    refine ⟨⟨[w.heap.size + 1], hT0.out.upd (Upd.of_below (S := []) hb3) (by simp), fun q hq hq' => ?_⟩, hbw, Below.heap' hb3 hbx.out, Nat.le_refl _⟩
    have h1 := (hBk q hq').1
    rw [List.mem_singleton.1 hq, hs2.out] at h1
    omega
  have hown : OwnFrom w3.heap.size (BeI w w3 (w.heap.size + 1) (bkL kx hx va vh) (.iface 153 (.pointer (some ⟨w.heap.size + 1, 0, none⟩)))) := BeI.own hbw.size
  replace hT0 := Lib.hid hT0
  replace hI0 := Lib.hid hI0
  replace hM := Lib.hid hM
  gi_wp2
  refine wpIn_rangeFunc_ownH (a := _) (w := w3) rfl (by omega) (gf := 67) (lb := #[.pointer (some ⟨kx, 0, none⟩), .pointer (some ⟨hx, 0, none⟩)]) rfl trivial (enters_of Tryz.func67 (by kernel_rfl) rfl) hstop KpL.trans (fun W l o o' h1 _ _ _ => KpL.putObj (fun q hq => (hBk q hq).2) W l o' h1) (Below.refl _ _) (fun _ => rfl)
    (BeI w w3 (w.heap.size + 1) (bkL kx hx va vh) (.iface 153 (.pointer (some ⟨w.heap.size + 1, 0, none⟩)))) (fun _ _ _ => False) hown (fun _ _ _ _ _ hs _ _ => hs) hI0.out
    (fun y a' W => ∃ Bx, w3.heap.size ≤ Bx ∧ W.heap[Bx]? = some (.cells #[.int .i64 y.2.1, .int .u64 y.2.2] 77) ∧ a' = { tmps := #[.pointer (some ⟨nb, 0, none⟩), .int .i64 256, undef, undef, .pointer (some ⟨w.heap.size, 0, none⟩), undef, undef, .int .u8 y.1.toNat, .pointer (some ⟨Bx, 0, none⟩), .int .i64 256, undef, undef, undef, undef, undef, undef, undef, undef, undef, undef, undef, undef, undef, undef, undef, undef, .bool false, .bool false, undef, undef, undef, .bool true, .bool true, .agg Tryz.zeroCells168, .pointer (some ⟨w.heap.size + 1, 0, none⟩), .iface 153 (.pointer (some ⟨w.heap.size + 1, 0, none⟩)), .pointer (some ⟨nb, 0, none⟩), .func (.func 67) #[] #[.pointer (some ⟨kx, 0, none⟩), .pointer (some ⟨hx, 0, none⟩)], .int .u8 y.1.toNat, hV y.2, undef, undef, undef, undef, undef, undef, undef, undef, undef, undef, undef, undef], defers := [] })
    (fun y a' _ X Y row hs hg hr => by obtain ⟨Bx, h1, h2, h3⟩ := hs; exact ⟨Bx, h1, (grown_upd hg).heap h2 (noCells (fun r e => (hr r e).2) h2), h3⟩)
    ?assign ?body ?done ?stop
  case assign =>
    intro l pre y W K hI hK
    have hal : Below W.heap.size W (W.alloc (.cells #[.int .i64 y.2.1, .int .u64 y.2.2] 77)) := (Below.refl _ _).alloc (Nat.le_refl _) _
    have hal2 : Upd [] W (W.alloc (.cells #[.int .i64 y.2.1, .int .u64 y.2.2] 77)) := Upd.of_below hal
    gi_wp2
    refine hK _ _ ((KeepsOthers.alloc _ _).from _) (fun q hq => hal2.block q (Nat.lt_of_lt_of_le (hBk q hq).2 hI.sz) (by simp)) ?_ ⟨W.heap.size, hI.sz, heap_alloc_new _ _, rfl⟩
    obtain ⟨Bt, hT, hd⟩ := hI.tt
    exact ⟨⟨Bt, hT.upd hal2 (by simp), hd⟩, hI.bel.trans (hal.mono hI.bel.size), hal2.heap hI.box (by simp), Nat.le_trans hI.sz hal.size⟩
  case body =>
    rintro l pre y a' W hl0 ⟨r, hr⟩ hI ⟨Bx, hBx, hbox, rfl⟩ hlt
    obtain ⟨Bt, hT, hd⟩ := hI.tt
    have hcl := hT.isCells
    have hlo := hT.lo
    obtain ⟨hps, hpl⟩ := puts_sort pre
    have c0 : W.cell? ⟨w.heap.size, 0, none⟩ = some (.iface 153 (.pointer (some ⟨w.heap.size + 1, 0, none⟩))) := by rw [cell_of_heap hI.box]; rfl
    have hq0 := heap_lt hI.box
    obtain ⟨z0, z1⟩ := box2 hbox
    have zl := heap_lt hbox
    cases hT.sh with
    | di hix =>
      have hc := Lib.hid (TAt.setDi (b := y.1) (x := y.2) (hlo _ (by simp)) hix hps)
      have hfin : Hid (∀ W', (∃ B', TAt (w.heap.size + 1) W' (w.heap.size + 1) B' (kput (puts pre) y.1 y.2) (.iface 153 (.pointer (some ⟨w.heap.size + 1, 0, none⟩))) ∧ ∀ q, q ∈ B' → q ∈ [w.heap.size + 1] ∨ W.heap.size ≤ q) → Upd [w.heap.size + 1] W W' → KeepsFrom w3.heap.size W W' ∧ KpL (bkL kx hx va vh) W W' ∧ BeI w w3 (w.heap.size + 1) (bkL kx hx va vh) (.iface 153 (.pointer (some ⟨w.heap.size + 1, 0, none⟩))) (pre ++ [y]) W') := Lib.hid fun W' ⟨B', hT', hb'⟩ hu => by
        refine ⟨below_keepsFrom hu hcl, fun q hq => hu.block q (Nat.lt_of_lt_of_le (hBk q hq).2 hI.sz) (fun hq' => hd q hq' hq), ⟨B', by rw [puts_snoc]; exact hT', fun q hq hq' => ?_⟩, below_upd hI.bel hu (fun q hq => by have := hlo q hq; omega), hu.heap hI.box (fun hq => by have := hlo _ hq; omega), Nat.le_trans hI.sz hu.size⟩
        rcases hb' q hq with e | e
        · exact hd q e hq'
        · have := (hBk q hq').2
          have := hI.sz
          omega
      clear hI hT hd hcl hlo hix hbox hBk hown hstop hr
      gi_wp2
      refine ⟨fun _ _ => trivial, ?_⟩
      go_invoke
      gi_wp2
      refine (CallsIn.inRound l (callsIn_wide.2 hc.out)).mono ?_
      clear hc
      rintro e W' ⟨rfl, hT', hu⟩
      gi_wp2
      exact hfin.out W' hT' hu
  case done =>
    rintro D xs W hD rfl hI hK
    obtain ⟨Bt, hT, hd⟩ := hI.tt
    obtain ⟨t, a, kind, hnode⟩ := hh.out.node
    have hnodeW := Below.heap' hI.bel hnode
    obtain ⟨n0, n1⟩ : W.cell? ⟨nb, 0, none⟩ = some (.iface t (.pointer (some a))) ∧ W.cell? ⟨nb, 1, none⟩ = some (.int .i64 (kind : Nat)) := ⟨by rw [cell_of_heap hnodeW]; rfl, by rw [cell_of_heap hnodeW]; rfl⟩
    have f0 := frozen_of_heap hnodeW 0
    have f1 := frozen_of_heap hnodeW 1
    have nl := heap_lt hnodeW
    have c0 : W.cell? ⟨w.heap.size, 0, none⟩ = some (.iface 153 (.pointer (some ⟨w.heap.size + 1, 0, none⟩))) := by rw [cell_of_heap hI.box]; rfl
    have hq0 := heap_lt hI.box
    have hne : nb ≠ w.heap.size := Nat.ne_of_lt (heap_lt hnode)
    have hDn : nb ≠ D := by have := hbw.size; have := heap_lt hnode; omega
    have hfin : Hid (∀ W', Upd [nb, D] W W' → W'.heap[nb]? = some (.cells #[.iface 153 (.pointer (some ⟨w.heap.size + 1, 0, none⟩)), .int .i64 256, .int .i64 xs.length] 136) → BeEnd w nb xs 256 (.returned (.tuple #[])) W') := Lib.hid fun W' hu hk => by
      have hT' := hT.upd hu fun q hq hq' => by
        obtain ⟨c, t, hc⟩ := hT.isCells q hq
        have := hT.lo q hq
        have := heap_lt hnode
        simp at hq'
        rcases hq' with rfl | rfl
        · omega
        · rw [hK] at hc; cases hc
      refine ⟨rfl, ⟨nb :: Bt, w.heap.size + 1, _, hk, ?_, fun q hq => ?_⟩, ?_⟩
      · rw [puts_self hks] at hT'
        cases hT'.sh with
        | di hix => exact .di hix rfl
      · rcases List.mem_cons.1 hq with e | e
        · exact .inl e
        · exact .inr (by have := hT.lo q e; omega)
      · have hb := Upd.of_below (S := [nb]) hI.bel
        refine ⟨hu.os.trans hb.os, hu.tape.trans hb.tape, hu.output.trans hb.output, Nat.le_trans hb.size hu.size, fun k hk hn => ?_⟩
        rw [← hb.block k hk hn]
        exact hu.block k (Nat.lt_of_lt_of_le hk hb.size) (by simp at hn ⊢; exact ⟨hn, by have := hbw.size; omega⟩)
    have hlw : Hid (W.heap[nb]? = some (.cells #[.iface t (.pointer (some a)), .int .i64 (kind : Nat), .int .i64 xs.length] 136)) := Lib.hid hnodeW
    clear hnodeW hnode hI hT hd hBk hown hstop hks
    gi_wp2
    refine ⟨by simp, .inl ⟨_, _, rfl, run_takeDeferred (by rw [heap_set_other _ _ (by simpa using Ne.symm hDn), heap_set_other _ _ (by simpa using Ne.symm hDn)]; exact hK), ?_⟩⟩
    refine ⟨_, results_none rfl _ _ _, hfin.out _ ?_ ?_⟩
    · exact upd_end W nb D _ _ _
    · rw [World.putObj_heap_other hDn, heap_self, heap_self, hlw.out]
      rfl
  case stop =>
    rintro D c pre W _ _ hx _
    exact hx.elim
set_option maxRecDepth 100000 in
set_option maxHeartbeats 2000000 in
theorem be16 {w : World} {nb : Nat} {B : List Nat} {L : KL} (h : KAt w nb B L) (hl : L.length ≤ 16) {va0 : Addr} {kd0 : Int} (hnd : w.heap[nb]? = some (.cells #[.iface 152 (.pointer (some va0)), .int .i64 kd0, .int .i64 L.length] 136)) : Calls Tryz.prog 72 #[.pointer (some ⟨nb, 0, none⟩), .int .i64 16] w (BeEnd w nb L 16) := by
  obtain ⟨v, hv⟩ : ∃ v, v = Value.iface 130 (.pointer (some ⟨w.heap.size + 1, 0, none⟩)) := ⟨_, rfl⟩
  have hB1 : Below w.heap.size w (w.alloc (.cells #[v] 134)) := (Below.refl _ _).alloc (Nat.le_refl _) _
  have hB2 : Below w.heap.size w ((w.alloc (.cells #[v] 134)).alloc (.cells #[.slice none 0 0, .slice none 0 0] 132)) := hB1.alloc hB1.size _
  have hT0 := TAt.newSo (n0 := w.heap.size + 1) (W := w.alloc (.cells #[v] 134)) (by rw [World.size_alloc]; exact Nat.le_refl _)
  rw [World.size_alloc] at hT0
  have hbx := Below.heap' ((Below.refl (w.alloc (.cells #[v] 134)).heap.size _).alloc (Nat.le_refl _) (.cells #[.slice none 0 0, .slice none 0 0] 132)) (heap_alloc_new w (.cells #[v] 134))
  have hAll := anAll_any (h.below hB2)
  have hs2 : ((w.alloc (.cells #[v] 134)).alloc (.cells #[.slice none 0 0, .slice none 0 0] 132)).heap.size = w.heap.size + 2 := by simp
  have c00 : w.cell? ⟨nb, 0, none⟩ = some (.iface 152 (.pointer (some va0))) := by rw [cell_of_heap hnd]; rfl
  have hq00 := heap_lt hnd
  have hn00 : nb ≠ w.heap.size := Nat.ne_of_lt hq00
  have hta : ∀ W : World, Sem.run Tryz.prog (Instr.typeAssert (.iface 152 (.pointer (some va0))) 134 130 true) W = Result.ok (.tuple #[.pointer none, .bool false]) W := fun _ => by rfl
  replace hta := Lib.hid hta
  clear hnd
  refine (callsIn_wide (n := 6)).1 ?_
  refine callsIn_of_wp_marks Tryz.func72 rfl trivial ?_ rfl
  simp only [Tryz.ntmps72, List.size_toArray, List.length_cons, List.length_nil, Nat.reduceAdd, Nat.reduceSub, Array.replicate_succ, Array.replicate_zero, List.push_toArray, List.append_toArray, List.nil_append, List.cons_append]
  subst hv
  replace hT0 := Lib.hid hT0
  replace hbx := Lib.hid hbx
  replace hAll := Lib.hid hAll
  replace hs2 := Lib.hid hs2
  replace hB2 := Lib.hid hB2
  have hh := Lib.hid h
  clear h hB1
  gi_wp2
  rw [hta.out]
  gi_wp2
  refine ⟨trivial, ?_⟩
  generalize (w.alloc (.cells #[.iface 130 (.pointer (some ⟨w.heap.size + 1, 0, none⟩))] 134)).alloc (.cells #[.slice none 0 0, .slice none 0 0] 132) = W2 at *
  refine (callsIn_wide.2 hAll.out).mono ?_
  clear hAll
  rintro e w3 ⟨kx, hx, va, vh, rfl, hM⟩
  have hb3 := hM.bel
  have hks := hh.out.ks
  have hstop := anAll1_stops Fence.wide 5 trivial rfl (by omega) hM (by omega)
  have hBk : ∀ q, q ∈ bkL kx hx va vh → W2.heap.size ≤ q ∧ q < w3.heap.size := fun q hq => by
    unfold bkL at hq
    rcases List.mem_cons.1 hq with rfl | hq
    · exact ⟨hM.lx.1, heap_lt hM.bk⟩
    · rcases List.mem_cons.1 hq with rfl | hq
      · exact ⟨hM.lx.2, heap_lt hM.bh⟩
      · rcases List.mem_append.1 hq with hq | hq
        · exact hM.ky.lt q (by simpa using hq)
        · exact hM.kd.lt q (by simpa using hq)
  have hbw : Below w.heap.size w w3 := hB2.out.trans (hb3.mono hB2.out.size)
  have hI0 : BeI w w3 (w.heap.size + 1) (bkL kx hx va vh) (.iface 130 (.pointer (some ⟨w.heap.size + 1, 0, none⟩))) [] w3 := by
    refine ⟨⟨[w.heap.size + 1], hT0.out.upd (Upd.of_below (S := []) hb3) (by simp), fun q hq hq' => ?_⟩, hbw, Below.heap' hb3 hbx.out, Nat.le_refl _⟩
    have h1 := (hBk q hq').1
    rw [List.mem_singleton.1 hq, hs2.out] at h1
    omega
  have hown : OwnFrom w3.heap.size (BeI w w3 (w.heap.size + 1) (bkL kx hx va vh) (.iface 130 (.pointer (some ⟨w.heap.size + 1, 0, none⟩)))) := BeI.own hbw.size
  replace hT0 := Lib.hid hT0
  replace hI0 := Lib.hid hI0
  replace hM := Lib.hid hM
  gi_wp2
  refine wpIn_rangeFunc_ownH (a := _) (w := w3) rfl (by omega) (gf := 67) (lb := #[.pointer (some ⟨kx, 0, none⟩), .pointer (some ⟨hx, 0, none⟩)]) rfl trivial (enters_of Tryz.func67 (by kernel_rfl) rfl) hstop KpL.trans (fun W l o o' h1 _ _ _ => KpL.putObj (fun q hq => (hBk q hq).2) W l o' h1) (Below.refl _ _) (fun _ => rfl)
    (BeI w w3 (w.heap.size + 1) (bkL kx hx va vh) (.iface 130 (.pointer (some ⟨w.heap.size + 1, 0, none⟩)))) (fun _ _ _ => False) hown (fun _ _ _ _ _ hs _ _ => hs) hI0.out
    (fun y a' W => ∃ Bx, w3.heap.size ≤ Bx ∧ W.heap[Bx]? = some (.cells #[.int .i64 y.2.1, .int .u64 y.2.2] 77) ∧ a' = { tmps := #[.pointer (some ⟨nb, 0, none⟩), .int .i64 16, undef, undef, .pointer (some ⟨w.heap.size, 0, none⟩), .pointer none, .bool false, .int .u8 y.1.toNat, .pointer (some ⟨Bx, 0, none⟩), .int .i64 16, .tuple #[.pointer none, .bool false], .pointer (some ⟨nb, 0, none⟩), .pointer (some ⟨nb, 0, none⟩), .pointer (some ⟨nb, 0, none⟩), .iface 152 (.pointer (some va0)), .tuple #[.pointer none, .bool false], .pointer none, .bool false, .bool false, undef, undef, undef, undef, .agg #[.slice none 0 0, .slice none 0 0], .pointer (some ⟨w.heap.size + 1, 0, none⟩), .iface 130 (.pointer (some ⟨w.heap.size + 1, 0, none⟩)), .bool false, .bool false, undef, undef, undef, .bool false, .bool false, undef, undef, undef, .pointer (some ⟨nb, 0, none⟩), .func (.func 67) #[] #[.pointer (some ⟨kx, 0, none⟩), .pointer (some ⟨hx, 0, none⟩)], .int .u8 y.1.toNat, hV y.2, undef, undef, undef, undef, undef, undef, undef, undef, undef, undef, undef, undef], defers := [] })
    (fun y a' _ X Y row hs hg hr => by obtain ⟨Bx, h1, h2, h3⟩ := hs; exact ⟨Bx, h1, (grown_upd hg).heap h2 (noCells (fun r e => (hr r e).2) h2), h3⟩)
    ?assign ?body ?done ?stop
  case assign =>
    intro l pre y W K hI hK
    have hal : Below W.heap.size W (W.alloc (.cells #[.int .i64 y.2.1, .int .u64 y.2.2] 77)) := (Below.refl _ _).alloc (Nat.le_refl _) _
    have hal2 : Upd [] W (W.alloc (.cells #[.int .i64 y.2.1, .int .u64 y.2.2] 77)) := Upd.of_below hal
    gi_wp2
    refine hK _ _ ((KeepsOthers.alloc _ _).from _) (fun q hq => hal2.block q (Nat.lt_of_lt_of_le (hBk q hq).2 hI.sz) (by simp)) ?_ ⟨W.heap.size, hI.sz, heap_alloc_new _ _, rfl⟩
    obtain ⟨Bt, hT, hd⟩ := hI.tt
    exact ⟨⟨Bt, hT.upd hal2 (by simp), hd⟩, hI.bel.trans (hal.mono hI.bel.size), hal2.heap hI.box (by simp), Nat.le_trans hI.sz hal.size⟩
  case body =>
    rintro l pre y a' W hl0 ⟨r, hr⟩ hI ⟨Bx, hBx, hbox, rfl⟩ hlt
    obtain ⟨Bt, hT, hd⟩ := hI.tt
    have hcl := hT.isCells
    have hlo := hT.lo
    obtain ⟨hps, hpl⟩ := puts_sort pre
    have c0 : W.cell? ⟨w.heap.size, 0, none⟩ = some (.iface 130 (.pointer (some ⟨w.heap.size + 1, 0, none⟩))) := by rw [cell_of_heap hI.box]; rfl
    have hq0 := heap_lt hI.box
    obtain ⟨z0, z1⟩ := box2 hbox
    have zl := heap_lt hbox
    cases hT.sh with
    | so n2 ka2 ha2 kc2 hc2 hix =>
      have hc := Lib.hid (TAt.setSo (b := y.1) (x := y.2) hlo hix hps (by omega) (by have := hI.bel.size; have := hI.sz; have := hb3.size; have := hs2.out; omega))
      have hfin : Hid (∀ W', (∃ B', TAt (w.heap.size + 1) W' (w.heap.size + 1) B' (kput (puts pre) y.1 y.2) (.iface 130 (.pointer (some ⟨w.heap.size + 1, 0, none⟩))) ∧ ∀ q, q ∈ B' → q ∈ (w.heap.size + 1) :: (ob ka2 ++ ob ha2) ∨ W.heap.size ≤ q) → Upd ((w.heap.size + 1) :: (ob ka2 ++ ob ha2)) W W' → KeepsFrom w3.heap.size W W' ∧ KpL (bkL kx hx va vh) W W' ∧ BeI w w3 (w.heap.size + 1) (bkL kx hx va vh) (.iface 130 (.pointer (some ⟨w.heap.size + 1, 0, none⟩))) (pre ++ [y]) W') := Lib.hid fun W' ⟨B', hT', hb'⟩ hu => by
        refine ⟨below_keepsFrom hu hcl, fun q hq => hu.block q (Nat.lt_of_lt_of_le (hBk q hq).2 hI.sz) (fun hq' => hd q hq' hq), ⟨B', by rw [puts_snoc]; exact hT', fun q hq hq' => ?_⟩, below_upd hI.bel hu (fun q hq => by have := hlo q hq; omega), hu.heap hI.box (fun hq => by have := hlo _ hq; omega), Nat.le_trans hI.sz hu.size⟩
        rcases hb' q hq with e | e
        · exact hd q e hq'
        · have := (hBk q hq').2
          have := hI.sz
          omega
      clear hI hT hd hcl hlo hix hbox hBk hown hstop hr
      gi_wp2
      refine ⟨fun _ _ => trivial, ?_⟩
      go_invoke
      gi_wp2
      refine (CallsIn.inRound l (callsIn_wide.2 hc.out)).mono ?_
      clear hc
      rintro e W' ⟨rfl, hT', hu⟩
      gi_wp2
      exact hfin.out W' hT' hu
  case done =>
    rintro D xs W hD rfl hI hK
    obtain ⟨Bt, hT, hd⟩ := hI.tt
    obtain ⟨t, a, kind, hnode⟩ := hh.out.node
    have hnodeW := Below.heap' hI.bel hnode
    obtain ⟨n0, n1⟩ : W.cell? ⟨nb, 0, none⟩ = some (.iface t (.pointer (some a))) ∧ W.cell? ⟨nb, 1, none⟩ = some (.int .i64 (kind : Nat)) := ⟨by rw [cell_of_heap hnodeW]; rfl, by rw [cell_of_heap hnodeW]; rfl⟩
    have f0 := frozen_of_heap hnodeW 0
    have f1 := frozen_of_heap hnodeW 1
    have nl := heap_lt hnodeW
    have c0 : W.cell? ⟨w.heap.size, 0, none⟩ = some (.iface 130 (.pointer (some ⟨w.heap.size + 1, 0, none⟩))) := by rw [cell_of_heap hI.box]; rfl
    have hq0 := heap_lt hI.box
    have hne : nb ≠ w.heap.size := Nat.ne_of_lt (heap_lt hnode)
    have hDn : nb ≠ D := by have := hbw.size; have := heap_lt hnode; omega
    have hfin : Hid (∀ W', Upd [nb, D] W W' → W'.heap[nb]? = some (.cells #[.iface 130 (.pointer (some ⟨w.heap.size + 1, 0, none⟩)), .int .i64 16, .int .i64 xs.length] 136) → BeEnd w nb xs 16 (.returned (.tuple #[])) W') := Lib.hid fun W' hu hk => by
      have hT' := hT.upd hu fun q hq hq' => by
        obtain ⟨c, t, hc⟩ := hT.isCells q hq
        have := hT.lo q hq
        have := heap_lt hnode
        simp at hq'
        rcases hq' with rfl | rfl
        · omega
        · rw [hK] at hc; cases hc
      refine ⟨rfl, ⟨nb :: Bt, w.heap.size + 1, _, hk, ?_, fun q hq => ?_⟩, ?_⟩
      · rw [puts_self hks] at hT'
        cases hT'.sh with
        | so n2 ka2 ha2 kc2 hc2 hix => exact .so 16 (.inr rfl) hl n2 ka2 ha2 kc2 hc2 hix rfl
      · rcases List.mem_cons.1 hq with e | e
        · exact .inl e
        · exact .inr (by have := hT.lo q e; omega)
      · have hb := Upd.of_below (S := [nb]) hI.bel
        refine ⟨hu.os.trans hb.os, hu.tape.trans hb.tape, hu.output.trans hb.output, Nat.le_trans hb.size hu.size, fun k hk hn => ?_⟩
        rw [← hb.block k hk hn]
        exact hu.block k (Nat.lt_of_lt_of_le hk hb.size) (by simp at hn ⊢; exact ⟨hn, by have := hbw.size; omega⟩)
    have hlw : Hid (W.heap[nb]? = some (.cells #[.iface t (.pointer (some a)), .int .i64 (kind : Nat), .int .i64 xs.length] 136)) := Lib.hid hnodeW
    clear hnodeW hnode hI hT hd hBk hown hstop hks
    gi_wp2
    refine ⟨by simp, .inl ⟨_, _, rfl, run_takeDeferred (by rw [heap_set_other _ _ (by simpa using Ne.symm hDn), heap_set_other _ _ (by simpa using Ne.symm hDn)]; exact hK), ?_⟩⟩
    refine ⟨_, results_none rfl _ _ _, hfin.out _ ?_ ?_⟩
    · exact upd_end W nb D _ _ _
    · rw [World.putObj_heap_other hDn, heap_self, heap_self, hlw.out]
      rfl
  case stop =>
    rintro D c pre W _ _ hx _
    exact hx.elim
end Go.Proofs.YtmhlokomlngdmaaGreat
