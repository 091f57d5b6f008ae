/- A node's children in order: two slices: what is found, set, dropped, next. A node's children in order: the least one from a byte on. -/
import Derived.Test.YtmhlokomlngdmaaGreatBSearch
import Derived.Test.YtmhlokomlngdmaaGreatArtN
import Derived.Test.YtmhlokomlngdmaaGreatInsertOfByte
import Derived.Test.YtmhlokomlngdmaaGreatInsertOfHd
import Derived.Test.YtmhlokomlngdmaaGreatDelOfByte
import Derived.Test.YtmhlokomlngdmaaGreatDelOfHd
import Derived.Test.YtmhlokomlngdmaaGreatRowSet
import Derived.Test.YtmhlokomlngdmaaGreatLate
import Derived.Handy
import Derived.Deep.RegionHeld3
namespace Go.Proofs.YtmhlokomlngdmaaGreat
open Go.RowKit
/-! ### Plain: places in the row -/
abbrev kb (L : KL) : List UInt8 := L.map (·.1)
abbrev kh (L : KL) : List Hd := L.map (·.2)
theorem ks_kb {L : KL} (hs : KSort L) : (kb L).Pairwise fun x y => x < y := List.pairwise_map.2 hs
theorem low_kb (L : KL) (b : UInt8) : lowB (kb L) b = (L.filter fun y => decide (y.1 < b)).length := by
  unfold lowB kb
  rw [List.filter_map, List.length_map]
  rfl
theorem ks_parts {L : KL} (hs : KSort L) (b : UInt8) : L = (L.filter fun y => decide (y.1 < b)) ++ ((match kget L b with | some h => [(b, h)] | none => []) ++ L.filter fun y => decide (b < y.1)) := by
  have h := ks_split hs b
  have e : (L.filter fun y => decide (b.toNat + 1 ≤ y.1.toNat)) = L.filter fun y => decide (b < y.1) := List.filter_congr fun y _ => by
    have := UInt8.lt_iff_toNat_lt (a := b) (b := y.1)
    by_cases h : b < y.1
    · rw [decide_eq_true h, decide_eq_true (by have := this.1 h; omega)]
    · rw [decide_eq_false h, decide_eq_false (by intro h'; exact h (this.2 (by omega)))]
  rw [e] at h
  exact h
theorem kdel_parts {L : KL} (b : UInt8) (hs : KSort L) : kdel L b = (L.filter fun y => decide (y.1 < b)) ++ L.filter fun y => decide (b < y.1) := by
  have h := ks_parts hs b
  conv => lhs; rw [h]
  unfold kdel
  rw [List.filter_append, List.filter_append, filter_all (l := L.filter fun y => decide (y.1 < b)) (fun y hy => by
    have := (List.mem_filter.1 hy).2
    simp only [decide_eq_true_eq] at this
    simp [UInt8.ne_of_lt this]), filter_all (l := L.filter fun y => decide (b < y.1)) (fun y hy => by
    have := (List.mem_filter.1 hy).2
    simp only [decide_eq_true_eq] at this
    simp [Ne.symm (UInt8.ne_of_lt this)])]
  cases kget L b <;> simp
theorem ks_mem {L : KL} (b : UInt8) : decide (b ∈ kb L) = (kget L b).isSome := by
  by_cases h : b ∈ kb L
  · rw [decide_eq_true h]
    obtain ⟨y, hy, e⟩ := List.mem_map.1 h
    cases hg : kget L b with
    | none => exact absurd e (kget_none_iff.1 hg y hy)
    | some _ => rfl
  · rw [decide_eq_false h]
    cases hg : kget L b with
    | none => rfl
    | some g =>
      unfold kget at hg
      cases hf : L.find? (fun x => decide (x.1 = b)) with
      | none => rw [hf] at hg; cases hg
      | some y =>
        have h1 := List.find?_some hf
        simp only [decide_eq_true_eq] at h1
        exact absurd (List.mem_map.2 ⟨y, List.mem_of_find?_eq_some hf, h1⟩) h
theorem ks_at {L : KL} (hs : KSort L) {b : UInt8} {h : Hd} (hg : kget L b = some h) : L[lowB (kb L) b]? = some (b, h) := by
  have hp := ks_parts hs b
  rw [hg] at hp
  rw [low_kb]
  conv => lhs; arg 1; rw [hp]
  rw [List.getElem?_append_right (Nat.le_refl _), Nat.sub_self]
  rfl
theorem ks_set {L : KL} (hs : KSort L) {b : UInt8} {h h' : Hd} (hg : kget L b = some h) : kb (kput L b h') = kb L ∧ kh (kput L b h') = (kh L).set (lowB (kb L) b) h' := by
  have hp := ks_parts hs b
  rw [hg] at hp
  rw [low_kb]
  unfold kput
  constructor
  · conv => rhs; rw [hp]
    simp [kb]
  · conv => rhs; arg 1; rw [hp]
    simp only [kh, List.map_append, List.map_cons, List.singleton_append]
    rw [List.set_append, if_neg (by simp)]
    simp
theorem ins_app {α : Type} (x : α) (B : List α) : ∀ A : List α, (A ++ B).insertIdx A.length x = A ++ x :: B
  | [] => by cases B <;> rfl
  | a :: A => by
    rw [List.cons_append, List.length_cons, List.insertIdx_succ_cons, ins_app x B A, List.cons_append]
theorem ks_ins {L : KL} (hs : KSort L) {b : UInt8} {h : Hd} (hg : kget L b = none) : kb (kput L b h) = (kb L).insertIdx (lowB (kb L) b) b ∧ kh (kput L b h) = (kh L).insertIdx (lowB (kb L) b) h ∧ (kput L b h).length = L.length + 1 ∧ lowB (kb L) b ≤ L.length := by
  have hp := ks_parts hs b
  rw [hg, List.nil_append] at hp
  rw [low_kb]
  have hl : L.length = (L.filter fun y => decide (y.1 < b)).length + (L.filter fun y => decide (b < y.1)).length := by
    conv => lhs; rw [hp]
    exact List.length_append
  unfold kput
  refine ⟨?_, ?_, by rw [List.length_append, List.length_cons]; omega, by omega⟩
  · conv => rhs; arg 1; rw [hp]
    simp only [kb, List.map_append, List.map_cons]
    have := ins_app b ((L.filter fun y => decide (b < y.1)).map (·.1)) ((L.filter fun y => decide (y.1 < b)).map (·.1))
    rw [List.length_map] at this
    exact this.symm
  · conv => rhs; arg 1; rw [hp]
    simp only [kh, List.map_append, List.map_cons]
    have := ins_app h ((L.filter fun y => decide (b < y.1)).map (·.2)) ((L.filter fun y => decide (y.1 < b)).map (·.2))
    rw [List.length_map] at this
    exact this.symm
theorem ks_era {L : KL} (hs : KSort L) {b : UInt8} {h : Hd} (hg : kget L b = some h) : kb (kdel L b) = (kb L).eraseIdx (lowB (kb L) b) ∧ kh (kdel L b) = (kh L).eraseIdx (lowB (kb L) b) ∧ (kdel L b).length + 1 = L.length ∧ lowB (kb L) b < L.length := by
  have hp := ks_parts hs b
  rw [hg] at hp
  rw [low_kb, kdel_parts b hs]
  have hl : L.length = (L.filter fun y => decide (y.1 < b)).length + ((L.filter fun y => decide (b < y.1)).length + 1) := by
    conv => lhs; rw [hp]
    rw [List.length_append, List.length_append, List.length_singleton]
    omega
  refine ⟨?_, ?_, by rw [List.length_append]; omega, by omega⟩
  · conv => rhs; arg 1; rw [hp]
    simp only [kb, List.map_append, List.map_cons, List.singleton_append]
    rw [List.eraseIdx_append_of_length_le (by simp)]
    simp
  · conv => rhs; arg 1; rw [hp]
    simp only [kh, List.map_append, List.map_cons, List.singleton_append]
    rw [List.eraseIdx_append_of_length_le (by simp)]
    simp
theorem kdel_none {L : KL} {b : UInt8} (hg : kget L b = none) : kdel L b = L := by
  unfold kdel
  exact filter_all fun y hy => by simp [kget_none_iff.1 hg y hy]
theorem kput_len {L : KL} (hs : KSort L) (b : UInt8) (h : Hd) : (kput L b h).length = if (kget L b).isSome then L.length else L.length + 1 := by
  cases hg : kget L b with
  | none => exact (ks_ins hs hg).2.2.1
  | some g =>
    have := congrArg List.length (ks_set hs hg (h' := h)).1
    simpa [kb] using this
theorem kdel_len {L : KL} (hs : KSort L) (b : UInt8) : (kdel L b).length = if (kget L b).isSome then L.length - 1 else L.length := by
  cases hg : kget L b with
  | none => rw [kdel_none hg]; rfl
  | some g => have := (ks_era hs hg).2.2.1; simp; omega
/-! ### In memory -/
abbrev hV (h : Hd) : Value := .agg #[.int .i64 h.1, .int .u64 h.2]
structure SoAt (w : World) (sb n : Nat) (ka ha : Option Addr) (kc hc : Nat) (L : KL) : Prop where
  len : n = L.length
  blk : w.heap[sb]? = some (.cells #[.slice ka n kc, .slice ha n hc] 132)
  ky : Row 0 5 1 bcel w (.slice ka (kb L).length kc) (kb L)
  kd : Row 0 77 2 hcel w (.slice ha (kh L).length hc) (kh L)
theorem Row.tagB {α : Type} {base k : Nat} {e : TypeId} {f : α → List Value} {w : World} {v : Value} {L : List α} (h : Row base e k f w v L) {b : Nat} (hb : v.ownBlock = some b) : ∃ cur, w.heap[b]? = some (.cells cur e) := by
  obtain ⟨_, _, _, ⟨h0, _⟩ | ⟨g, cap, cur, h0, _, q2, _⟩⟩ := h
  · rw [h0] at hb; cases hb
  · rw [h0] at hb
    simp only [Value.ownBlock, Option.some.injEq] at hb
    rw [← hb]
    exact ⟨cur, q2⟩
def ob (a : Option Addr) : List Nat := match a with
  | some x => [x.block]
  | none => []
theorem ob_own (a : Option Addr) (n c : Nat) : (Value.slice a n c).ownBlock.toList = ob a := by cases a <;> rfl
theorem ob_mem {a : Option Addr} {n c b : Nat} : b ∈ ob a ↔ (Value.slice a n c).ownBlock = some b := by
  cases a with
  | none => simp [ob, Value.ownBlock]
  | some x => simp [ob, Value.ownBlock, eq_comm]
section
variable {w : World} {sb n kc hc : Nat} {ka ha : Option Addr} {L : KL}
theorem SoAt.cells (h : SoAt w sb n ka ha kc hc L) : w.cell? ⟨sb, 0, none⟩ = some (.slice ka n kc) ∧ w.cell? ⟨sb, 1, none⟩ = some (.slice ha n hc) ∧ sb < w.heap.size ∧ (∀ i, w.frozen? ⟨sb, i, none⟩ = false) ∧ n ≤ kc ∧ n ≤ hc ∧ kc ≤ 9223372036854775807 ∧ hc ≤ 9223372036854775807 := by
  obtain ⟨q1, q2, _⟩ := h.ky.at'
  obtain ⟨q3, q4, _⟩ := h.kd.at'
  have hl := h.len
  simp only [List.length_map] at q1 q3
  refine ⟨by rw [cell_of_heap h.blk]; rfl, by rw [cell_of_heap h.blk]; rfl, heap_lt h.blk, fun i => frozen_of_heap h.blk i, by omega, by omega, q2, q4⟩
theorem SoAt.search (h : SoAt w sb n ka ha kc hc L) (hs : KSort L) (hL : L.length ≤ 1000) (b : UInt8) : ∀ W, Below w.heap.size w W → Calls Tryz.prog 123 #[.slice ka n kc, .int .u8 b.toNat] W fun e w' => e = .returned (.tuple #[.int .i64 (lowB (kb L) b), .bool (kget L b).isSome]) ∧ W = w' := fun W hW => by
  have := bsearch_any ka kc (kb L) b W (h.ky.at'.below hW) (ks_kb hs) (by rw [List.length_map]; omega)
  rw [List.length_map, ← h.len, ks_mem] at this
  exact this
/-- The blocks of the three are three. -/
theorem SoAt.ne (h : SoAt w sb n ka ha kc hc L) : sb ∉ ob ka ∧ sb ∉ ob ha ∧ ∀ b, b ∈ ob ka → b ∉ ob ha := by
  have hk : ∀ b, b ∈ ob ka → ∃ cur, w.heap[b]? = some (.cells cur 5) := fun b hb => h.ky.tagB (ob_mem.1 hb)
  have hh : ∀ b, b ∈ ob ha → ∃ cur, w.heap[b]? = some (.cells cur 77) := fun b hb => h.kd.tagB (ob_mem.1 hb)
  refine ⟨fun hb => ?_, fun hb => ?_, fun b hb hb' => ?_⟩
  · obtain ⟨c, hc⟩ := hk _ hb
    rw [h.blk] at hc
    injection hc with hc
    injection hc with _ hc
    exact absurd hc (by decide)
  · obtain ⟨c, hc⟩ := hh _ hb
    rw [h.blk] at hc
    injection hc with hc
    injection hc with _ hc
    exact absurd hc (by decide)
  · obtain ⟨c, hc⟩ := hk _ hb
    obtain ⟨c', hc'⟩ := hh _ hb'
    rw [hc] at hc'
    injection hc' with hc'
    injection hc' with _ hc'
    exact absurd hc' (by decide)
theorem SoAt.upd {S : List Nat} {w' : World} (h : SoAt w sb n ka ha kc hc L) (hu : Upd S w w') (h1 : sb ∉ S) (h2 : ∀ b, b ∈ ob ka → b ∉ S) (h3 : ∀ b, b ∈ ob ha → b ∉ S) : SoAt w' sb n ka ha kc hc L :=
  ⟨h.len, hu.heap h.blk h1, h.ky.upd hu fun b hb => h2 b (ob_mem.2 hb), h.kd.upd hu fun b hb => h3 b (ob_mem.2 hb)⟩
theorem SoAt.below {w' : World} (h : SoAt w sb n ka ha kc hc L) (hb : Below w.heap.size w w') : SoAt w' sb n ka ha kc hc L := h.upd (Upd.of_below (S := []) hb) (by simp) (by simp) (by simp)
theorem SoAt.kid (h : SoAt w sb n ka ha kc hc L) {i : Nat} {y : UInt8 × Hd} (hi : L[i]? = some y) : i < n ∧ ∃ g, ha = some ⟨g, 0, none⟩ ∧ g < w.heap.size ∧ g ≠ sb ∧ w.cell? ⟨g, i * 2, none⟩ = some (.int .i64 y.2.1) ∧ w.cell? ⟨g, i * 2 + 1, none⟩ = some (.int .u64 y.2.2) ∧ ∀ j, w.frozen? ⟨g, j, none⟩ = false := by
  have hin : i < L.length := (List.getElem?_eq_some_iff.1 hi).1
  have hh : (kh L)[i]? = some y.2 := by rw [List.getElem?_map, hi]; rfl
  obtain ⟨g, cap, e, q1, _, q3, _, _, _, q4⟩ := h.kd.at hh
  injection e with e _ e2
  obtain ⟨cur, hcur⟩ := h.kd.tagB q1
  refine ⟨by rw [h.len]; exact hin, g, e, q3, fun e' => ?_, q4 0 _ rfl, q4 1 _ rfl, fun j => frozen_of_heap hcur j⟩
  exact h.ne.2.1 (by rw [e, ← e']; simp [ob])
theorem SoAt.key (h : SoAt w sb n ka ha kc hc L) {i : Nat} {y : UInt8 × Hd} (hi : L[i]? = some y) : ∃ g, ka = some ⟨g, 0, none⟩ ∧ g < w.heap.size ∧ w.cell? ⟨g, i, none⟩ = some (.int .u8 y.1.toNat) := by
  have hh : (kb L)[i]? = some y.1 := by rw [List.getElem?_map, hi]; rfl
  obtain ⟨g, cap, e, q1, _, q3, _, _, _, q4⟩ := h.ky.at hh
  injection e with e _ e2
  exact ⟨g, e, q3, by simpa using q4 0 _ rfl⟩
set_option maxRecDepth 100000 in
set_option maxHeartbeats 1000000 in
theorem soGet_any (h : SoAt w sb n ka ha kc hc L) (hs : KSort L) (hL : L.length ≤ 1000) (b : UInt8) :
    Calls Tryz.prog 121 #[.pointer (some ⟨sb, 0, none⟩), .int .u8 b.toNat] w fun e w' => e = .returned (.tuple #[hV ((kget L b).getD (0, 0)), .bool (kget L b).isSome]) ∧ Below w.heap.size w w' := by
  have hS := Lib.hid (h.search hs hL b _ ((Below.refl w.heap.size w).alloc (Nat.le_refl _) (.cells #[.int .i64 0, .int .u64 0] 77)))
  obtain ⟨c0, c1, hq, _, hk1, hk2, hk3, hk4⟩ := h.cells
  cases hg : kget L b with
  | none =>
    rw [hg] at hS
    clear h hs
    go_enter Tryz.func121, Tryz.ntmps121
    go_wp2_with fail
    refine hS.out.mono ?_
    clear hS
    rintro e w1 ⟨rfl, rfl⟩
    go_wp2_with fail
    refine bodyPost_ret (v := .tuple #[hV (0, 0), .bool false]) (by simp [results, Tryz.results121, go_sem]) rfl ⟨rfl, ?_⟩
    exact ((Below.refl _ _).alloc (Nat.le_refl _) _).alloc (by simp) _
  | some g =>
    have hat := ks_at hs hg
    obtain ⟨hin, g0, rfl, hg1, _, x0, x1, _⟩ := h.kid hat
    rw [hg] at hS
    obtain ⟨i, hi⟩ : ∃ i, i = lowB (kb L) b := ⟨_, rfl⟩
    rw [← hi] at hS hin x0 x1
    clear h hs hat hi hg
    have hin' : (i : Int) < (n : Int) := by omega
    go_enter Tryz.func121, Tryz.ntmps121
    go_wp2_with fail
    refine hS.out.mono ?_
    clear hS
    rintro e w1 ⟨rfl, rfl⟩
    go_wp2_with fail
    refine bodyPost_ret (v := .tuple #[hV g, .bool true]) (by simp [results, Tryz.results121, go_sem]) rfl ⟨rfl, ?_⟩
    exact (Below.refl w.heap.size w).alloc (Nat.le_refl _) _
def SoEnd (w : World) (sb : Nat) (ka ha : Option Addr) (L : KL) (e : Ending) (w' : World) : Prop := e = .returned (.tuple #[]) ∧ ∃ n' ka' ha' kc' hc', SoAt w' sb n' ka' ha' kc' hc' L ∧ Upd (sb :: (ob ka ++ ob ha)) w w' ∧ ∀ q, q ∈ ob ka' ++ ob ha' → q ∈ ob ka ++ ob ha ∨ w.heap.size ≤ q
set_option maxRecDepth 100000 in
set_option maxHeartbeats 1000000 in
theorem soSet_old (h : SoAt w sb n ka ha kc hc L) (hs : KSort L) (hL : L.length ≤ 900) (b : UInt8) (x : Hd) (hg : (kget L b).isSome = true) :
    Calls Tryz.prog 122 #[.pointer (some ⟨sb, 0, none⟩), .int .u8 b.toNat, hV x] w (SoEnd w sb ka ha (kput L b x)) := by
  obtain ⟨g, hg⟩ := Option.isSome_iff_exists.1 hg
  have hB1 : Below w.heap.size w (w.alloc (.cells #[.int .i64 x.1, .int .u64 x.2] 77)) := (Below.refl _ _).alloc (Nat.le_refl _) _
  have hS := Lib.hid (h.search hs (by omega) b _ hB1)
  have h1 := h.below hB1
  have kbx := heap_alloc_new w (.cells #[.int .i64 x.1, .int .u64 x.2] 77)
  have z0 : (w.alloc (.cells #[.int .i64 x.1, .int .u64 x.2] 77)).cell? ⟨w.heap.size, 0, none⟩ = some (.int .i64 x.1) := by rw [cell_of_heap kbx]; rfl
  have z1 : (w.alloc (.cells #[.int .i64 x.1, .int .u64 x.2] 77)).cell? ⟨w.heap.size, 1, none⟩ = some (.int .u64 x.2) := by rw [cell_of_heap kbx]; rfl
  have zl := heap_lt kbx
  obtain ⟨c0, c1, hq, _, hk1, hk2, hk3, hk4⟩ := h1.cells
  have hat := ks_at hs hg
  have hst := ks_set hs hg (h' := x)
  obtain ⟨hin, g0, e0, hg1, hgs, x0, x1, hfr⟩ := h1.kid hat
  subst e0
  rw [hg] at hS
  obtain ⟨i, hi⟩ : ∃ i, i = lowB (kb L) b := ⟨_, rfl⟩
  rw [← hi] at hS hin x0 x1 hst hat
  have hfin : Hid (∀ W, W = ((w.alloc (.cells #[.int .i64 x.1, .int .u64 x.2] 77)).drew.setCell ⟨g0, i * 2, none⟩ (.int .i64 x.1)).setCell ⟨g0, i * 2 + 1, none⟩ (.int .u64 x.2) → SoEnd w sb ka (some ⟨g0, 0, none⟩) (kput L b x) (.returned (.tuple #[])) W) := Lib.hid fun W hW => by
    subst hW
    have h2 := h1.below (Below.refl _ _).drew
    have hh : (kh L)[i]? = some g := by rw [List.getElem?_map, hat]; rfl
    obtain ⟨b1, k1, e1, _, _, _, r1⟩ := h2.kd.setCell (j := 0) (y := (x.1, g.2)) (u := .int .i64 x.1) hh (by omega) rfl
    injection e1 with e1
    injection e1 with e1
    injection e1 with e1
    subst e1
    obtain ⟨b2, k2, e2, _, _, _, r2⟩ := r1.setCell (i := i) (j := 1) (x := (x.1, g.2)) (y := x) (u := .int .u64 x.2) (by rw [List.getElem?_set_self (by exact (List.getElem?_eq_some_iff.1 hh).1)]) (by omega) rfl
    injection e2 with e2
    injection e2 with e2
    injection e2 with e2
    subst e2
    rw [List.set_set, ← hst.2] at r2
    have hu : Upd [g0] (w.alloc (.cells #[.int .i64 x.1, .int .u64 x.2] 77)).drew _ := ((Upd.refl [g0] _).setCell (p := ⟨g0, i * 2, none⟩) (by simp) (.int .i64 x.1)).setCell (p := ⟨g0, i * 2 + 1, none⟩) (by simp) (.int .u64 x.2)
    have hu0 : Upd [g0] w (w.alloc (.cells #[.int .i64 x.1, .int .u64 x.2] 77)).drew := Upd.of_below hB1.drew
    have hlen : (kput L b x).length = L.length := by
      have := congrArg List.length hst.1
      simpa [kb] using this
    refine ⟨rfl, n, ka, some ⟨g0, 0, none⟩, kc, hc, ⟨by rw [hlen]; exact h.len, hu.heap h2.blk (by simpa using Ne.symm hgs), ?_, ?_⟩, (hu0.trans hu).mono (by simp [ob]), fun q hq => .inl hq⟩
    · have := h2.ky.upd hu fun q hq => by
        have := h2.ne.2.2 q (ob_mem.2 hq)
        simpa [ob] using this
      rw [hst.1]
      exact this
    · have hl2 : (kh (kput L b x)).length = (kh L).length := by simp [kh, hlen]
      rw [hl2]
      simpa using r2
  clear h h1 hs hat hst hi hg hB1 kbx
  have hin' : (i : Int) < (n : Int) := by omega
  have hf0 := hfr (i * 2)
  have hf1 := hfr (i * 2 + 1)
  clear hfr
  go_enter Tryz.func122, Tryz.ntmps122
  go_upto_region 1 with fail
  generalize w.alloc (.cells #[.int .i64 x.1, .int .u64 x.2] 77) = W1 at *
  generalize w.heap.size = xb at *
  go_wp2_with fail
  refine hS.out.mono ?_
  clear hS
  rintro e w1 ⟨rfl, rfl⟩
  go_upto_region 3 with fail
  go_region_with (fail)
  all_goals
    go_wp2_with fail
    go_end0
    exact hfin.out _ rfl
/-- On the way of a Set or a Drop: the two rows have turned, the struct has not. -/
structure SS (w : World) (sb n : Nat) (ka ha : Option Addr) (kc hc : Nat) (va vh : Value) (M : List UInt8) (H : List Hd) (W : World) : Prop where
  blk : W.heap[sb]? = some (.cells #[.slice ka n kc, .slice ha n hc] 132)
  ky : Row 0 5 1 bcel W va M
  kd : Row 0 77 2 hcel W vh H
  upd : Upd (ob ka ++ ob ha) w W
  oa : ∀ q, va.ownBlock = some q → q ∈ ob ka ∨ w.heap.size ≤ q
  oh : ∀ q, vh.ownBlock = some q → q ∈ ob ha ∨ w.heap.size ≤ q
section
variable {va vh va' vh' : Value} {M M' : List UInt8} {H H' : List Hd} {W W' : World}
theorem SoAt.ss (h : SoAt w sb n ka ha kc hc L) : SS w sb n ka ha kc hc (.slice ka (kb L).length kc) (.slice ha (kh L).length hc) (kb L) (kh L) w :=
  ⟨h.blk, h.ky, h.kd, Upd.refl _ _, fun _ hq => .inl (ob_mem.2 hq), fun _ hq => .inl (ob_mem.2 hq)⟩
theorem SS.below (h : SS w sb n ka ha kc hc va vh M H W) (hb : Below W.heap.size W W') : SS w sb n ka ha kc hc va vh M H W' :=
  ⟨(Upd.of_below (S := []) hb).heap h.blk (by simp), h.ky.below hb, h.kd.below hb, h.upd.trans (Upd.of_below hb), h.oa, h.oh⟩
theorem tag_ne {w : World} {x y : Nat} {c c' : Array Value} {t t' : TypeId} (h : w.heap[x]? = some (.cells c t)) (h' : w.heap[y]? = some (.cells c' t')) (ht : t ≠ t') : x ≠ y := fun e => by
  rw [e, h'] at h
  injection h with h
  injection h with _ h
  exact ht h.symm
theorem SS.turnA (h : SS w sb n ka ha kc hc va vh M H W) (hu : Upd va.ownBlock.toList W W') (hr : Row 0 5 1 bcel W' va' M') (ho : va'.ownBlock = va.ownBlock ∨ va'.ownBlock = some W.heap.size) : SS w sb n ka ha kc hc va' vh M' H W' := by
  have ht : ∀ q, va.ownBlock = some q → ∃ cur, W.heap[q]? = some (.cells cur 5) := fun q hq => h.ky.tagB hq
  have hin : ∀ q, q ∈ va.ownBlock.toList → va.ownBlock = some q := fun q hq => by simpa using hq
  refine ⟨hu.heap h.blk fun hq => ?_, hr, h.kd.upd hu fun q hq hq' => ?_, h.upd.via hu fun q hq => ?_, fun q hq => ?_, h.oh⟩
  · obtain ⟨c, hc⟩ := ht _ (hin _ hq)
    exact tag_ne hc h.blk (by decide) rfl
  · obtain ⟨c, hc⟩ := ht _ (hin _ hq')
    obtain ⟨c', hc'⟩ := h.kd.tagB hq
    exact tag_ne hc hc' (by decide) rfl
  · rcases h.oa q (hin q hq) with e | e
    · exact .inl (List.mem_append_left _ e)
    · exact .inr e
  · rcases ho with e | e
    · rw [e] at hq; exact h.oa q hq
    · rw [e] at hq; injection hq with hq; exact .inr (by rw [← hq]; exact h.upd.size)
theorem SS.turnH (h : SS w sb n ka ha kc hc va vh M H W) (hu : Upd vh.ownBlock.toList W W') (hr : Row 0 77 2 hcel W' vh' H') (ho : vh'.ownBlock = vh.ownBlock ∨ vh'.ownBlock = some W.heap.size) : SS w sb n ka ha kc hc va vh' M H' W' := by
  have ht : ∀ q, vh.ownBlock = some q → ∃ cur, W.heap[q]? = some (.cells cur 77) := fun q hq => h.kd.tagB hq
  have hin : ∀ q, q ∈ vh.ownBlock.toList → vh.ownBlock = some q := fun q hq => by simpa using hq
  refine ⟨hu.heap h.blk fun hq => ?_, h.ky.upd hu fun q hq hq' => ?_, hr, h.upd.via hu fun q hq => ?_, h.oa, fun q hq => ?_⟩
  · obtain ⟨c, hc⟩ := ht _ (hin _ hq)
    exact tag_ne hc h.blk (by decide) rfl
  · obtain ⟨c, hc⟩ := ht _ (hin _ hq')
    obtain ⟨c', hc'⟩ := h.ky.tagB hq
    exact tag_ne hc hc' (by decide) rfl
  · rcases h.oh q (hin q hq) with e | e
    · exact .inl (List.mem_append_right _ e)
    · exact .inr e
  · rcases ho with e | e
    · rw [e] at hq; exact h.oh q hq
    · rw [e] at hq; injection hq with hq; exact .inr (by rw [← hq]; exact h.upd.size)
theorem SS.cells (h : SS w sb n ka ha kc hc va vh M H W) : W.cell? ⟨sb, 0, none⟩ = some (.slice ka n kc) ∧ W.cell? ⟨sb, 1, none⟩ = some (.slice ha n hc) ∧ sb < W.heap.size ∧ (∀ i, W.frozen? ⟨sb, i, none⟩ = false) :=
  ⟨by rw [cell_of_heap h.blk]; rfl, by rw [cell_of_heap h.blk]; rfl, heap_lt h.blk, fun i => frozen_of_heap h.blk i⟩
/-- The struct is written. -/
theorem SS.fin {ka' ha' : Option Addr} {n' kc' hc' : Nat} (h : SS w sb n ka ha kc hc (.slice ka' n' kc') (.slice ha' n' hc') (kb L) (kh L) W) (hn : n' = L.length) : SoEnd w sb ka ha L (.returned (.tuple #[])) ((W.setCell ⟨sb, 0, none⟩ (.slice ka' n' kc')).setCell ⟨sb, 1, none⟩ (.slice ha' n' hc')) := by
  have hu : Upd [sb] W ((W.setCell ⟨sb, 0, none⟩ (.slice ka' n' kc')).setCell ⟨sb, 1, none⟩ (.slice ha' n' hc')) := ((Upd.refl [sb] W).setCell (p := ⟨sb, 0, none⟩) (by simp) _).setCell (p := ⟨sb, 1, none⟩) (by simp) _
  have hka : ∀ q, (Value.slice ka' n' kc').ownBlock = some q → q ∉ [sb] := fun q hq hq' => by
    obtain ⟨c, hc⟩ := h.ky.tagB hq
    exact tag_ne hc h.blk (by decide) (by simpa using hq')
  have hkh : ∀ q, (Value.slice ha' n' hc').ownBlock = some q → q ∉ [sb] := fun q hq hq' => by
    obtain ⟨c, hc⟩ := h.kd.tagB hq
    exact tag_ne hc h.blk (by decide) (by simpa using hq')
  refine ⟨rfl, n', ka', ha', kc', hc', ⟨hn, ?_, ?_, ?_⟩, (h.upd.mono (S' := sb :: (ob ka ++ ob ha)) (fun q hq => List.mem_cons_of_mem _ hq)).trans (hu.mono (by simp)), fun q hq => ?_⟩
  · rw [heap_self, heap_self, h.blk]
    rfl
  · rw [show (kb L).length = n' by rw [hn, List.length_map]]
    exact h.ky.upd hu hka
  · rw [show (kh L).length = n' by rw [hn, List.length_map]]
    exact h.kd.upd hu hkh
  · rcases List.mem_append.1 hq with hq | hq
    · exact (h.oa q (ob_mem.1 hq)).imp (List.mem_append_left _) id
    · exact (h.oh q (ob_mem.1 hq)).imp (List.mem_append_right _) id
end
end
end Go.Proofs.YtmhlokomlngdmaaGreat
namespace Go.Proofs.YtmhlokomlngdmaaGreat
open Go.RowKit
/-- A child, or none, as From hands it back. -/
def fromV (o : Option (UInt8 × Hd)) : Value := .tuple #[.int .u8 (match o with | some y => y.1.toNat | none => 0), (match o with | some y => hV y.2 | none => hV (0, 0)), .bool o.isSome]
theorem kfrom_cons (y : UInt8 × Hd) (L : KL) (i : Nat) : kfrom (y :: L) i = if i ≤ y.1.toNat then some y else kfrom L i := by
  unfold kfrom
  rw [List.find?_cons]
  by_cases h : i ≤ y.1.toNat
  · rw [decide_eq_true h, if_pos h]
  · rw [decide_eq_false h, if_neg h]
theorem box_set {W : World} {q : Nat} {u0 v0 : Value} {t : TypeId} (h : W.heap[q]? = some (.cells #[u0, v0] t)) (u v : Value) : ((W.setCell ⟨q, 0, none⟩ u).setCell ⟨q, 1, none⟩ v).heap[q]? = some (.cells #[u, v] t) := by
  rw [heap_self, heap_self, h]
  rfl
section
variable {w : World} {sb n kc hc : Nat} {ka ha : Option Addr} {L : KL}
set_option maxRecDepth 100000 in
set_option maxHeartbeats 1000000 in
theorem soFrom_any (h : SoAt w sb n ka ha kc hc L) (hL : L.length ≤ 1000) (i : Nat) (_hi : i ≤ 256) :
    Calls Tryz.prog 120 #[.pointer (some ⟨sb, 0, none⟩), .int .i64 i] w fun e w' => e = .returned (fromV (kfrom L i)) ∧ Below w.heap.size w w' := by
  have hky := Lib.hid fun (j : Nat) y (hj : L[j]? = some y) => h.key hj
  have hkd := Lib.hid fun (j : Nat) y (hj : L[j]? = some y) => h.kid hj
  obtain ⟨c0, c1, hq, _, hk1, hk2, hk3, hk4⟩ := h.cells
  have hn := Lib.hid h.len
  have hn1 : n ≤ 1000 := by have := h.len; omega
  obtain ⟨res, hres⟩ : ∃ res, res = kfrom L i := ⟨_, rfl⟩
  rw [← hres]
  replace hres := Lib.hid hres
  clear h
  go_enter Tryz.func120, Tryz.ntmps120
  go_wp2_with fail
  go_loopg [15] n (fun gk v wr => ∃ k : Nat, gk = n - k ∧ k ≤ n ∧ v = .int .i64 k ∧ kfrom L i = kfrom (L.drop k) i ∧ Below w.heap.size w wr ∧ wr.heap[w.heap.size]? = some (.cells #[.int .i64 0, .int .u64 0] 77))
  case atStart => exact ⟨0, rfl, Nat.zero_le _, rfl, rfl, (Below.refl _ _).alloc (Nat.le_refl _) _, heap_alloc_new _ _⟩
  case round =>
    obtain ⟨k, rfl, hk, rfl, hg, hB, hbx⟩ := hrel
    by_cases hlt : k < n
    · obtain ⟨y, hy⟩ : ∃ y, L[k]? = some y := ⟨_, List.getElem?_eq_getElem (by have := hn.out; omega)⟩
      obtain ⟨g, rfl, hg1, x0⟩ := hky.out k y hy
      obtain ⟨_, g', rfl, hg2, _, y0, y1, _⟩ := hkd.out k y hy
      have hd : L.drop k = y :: L.drop (k + 1) := by
        obtain ⟨h1, h2⟩ := List.getElem?_eq_some_iff.1 hy
        rw [List.drop_eq_getElem_cons h1, h2]
      rw [hd, kfrom_cons] at hg
      have x0' := keep hB x0
      have y0' := keep hB y0
      have y1' := keep hB y1
      have c0' := keep hB c0
      have c1' := keep hB c1
      have q1 := block_lt_of_cell x0'
      have q2 := block_lt_of_cell y0'
      have q3 := block_lt_of_cell c0'
      have hA2 : (k : Int) < (n : Int) := by omega
      have hA3 : (0 : Int) ≤ (k : Int) := by omega
      have hw1 : IntKind.i64.wrap ((k : Int) + 1) = (k : Int) + 1 := IntWalk.i64_in _ (by omega)
      have hyl : y.1.toNat < 256 := y.1.toNat_lt
      by_cases hge : i ≤ y.1.toNat
      · rw [if_pos hge] at hg
        have hr : Hid (res = some y) := Lib.hid (hres.out.trans hg)
        have hge' : (i : Int) ≤ (y.1.toNat : Int) := by omega
        have f0 := frozen_of_heap hbx 0
        have f1 := frozen_of_heap hbx 1
        have z0 : wr.cell? ⟨w.heap.size, 0, none⟩ = some (.int .i64 0) := by rw [cell_of_heap hbx]; rfl
        have z1 : wr.cell? ⟨w.heap.size, 1, none⟩ = some (.int .u64 0) := by rw [cell_of_heap hbx]; rfl
        have hqx := heap_lt hbx
        replace hB := Lib.hid hB
        clear hg hd hbx x0 y0 y1 hy c0 c1
        go_upto_region 5 with fail
        go_region_with (fail)
        all_goals
          go_wp2_with fail
          refine bodyPost_ret (v := fromV (some y)) (by simp [results, Tryz.results120, go_sem, fromV, z0, z1]) rfl ⟨by rw [hr.out], ?_⟩
          exact (hB.out.drew.setCell (p := ⟨w.heap.size, 0, none⟩) (Nat.le_refl _) _).setCell (p := ⟨w.heap.size, 1, none⟩) (Nat.le_refl _) _
      · rw [if_neg hge] at hg
        have hge' : ¬ (i : Int) ≤ (y.1.toNat : Int) := by omega
        replace hB := Lib.hid hB
        replace hbx := Lib.hid hbx
        replace hg := Lib.hid hg
        clear hd x0 y0 y1 hy
        go_wp2_with fail
        go_roundg (n - (k + 1))
        case rel => exact ⟨k + 1, rfl, by omega, by go_num, hg.out, hB.out, hbx.out⟩
        case measure => omega
    · obtain rfl : k = n := by omega
      have hr : Hid (res = none) := Lib.hid (by
        rw [hres.out, hg, List.drop_eq_nil_of_le (by have := hn.out; omega)]
        rfl)
      have f0 := frozen_of_heap hbx 0
      have f1 := frozen_of_heap hbx 1
      have z0 : wr.cell? ⟨w.heap.size, 0, none⟩ = some (.int .i64 0) := by rw [cell_of_heap hbx]; rfl
      have z1 : wr.cell? ⟨w.heap.size, 1, none⟩ = some (.int .u64 0) := by rw [cell_of_heap hbx]; rfl
      have hqx := heap_lt hbx
      have hb3 := Below.heap' ((Below.refl _ ((wr.setCell ⟨w.heap.size, 0, none⟩ (.int .i64 0)).setCell ⟨w.heap.size, 1, none⟩ (.int .u64 0))).alloc (Nat.le_refl _) (.cells #[.int .i64 0, .int .u64 0] 77)).drew (box_set hbx (.int .i64 0) (.int .u64 0))
      have e0 := cell_of_heap hb3 0
      have e1 := cell_of_heap hb3 1
      replace e0 := Lib.hid e0
      replace e1 := Lib.hid e1
      replace hB := Lib.hid hB
      clear hg hbx hb3
      go_upto_region 8 with fail
      go_region_with (fail)
      all_goals
        go_wp2_with fail
        refine bodyPost_ret (v := fromV none) (by simp [results, Tryz.results120, go_sem, fromV, e0.out, e1.out]) rfl ⟨by rw [hr.out], ?_⟩
        have hB2 := (hB.out.setCell (p := ⟨w.heap.size, 0, none⟩) (Nat.le_refl _) (.int .i64 0)).setCell (p := ⟨w.heap.size, 1, none⟩) (Nat.le_refl _) (.int .u64 0)
        exact (hB2.alloc hB2.size _).drew
end
end Go.Proofs.YtmhlokomlngdmaaGreat
