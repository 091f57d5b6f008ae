/- The contracts of a node's Covers, Full, Find; where a slice's elements stand. The contracts of a node's Right (of one that is), Kid, takes. The contracts of a node's Kid and takes; a node in memory. -/
import Derived.Test.YtlhobbfncjjeaaaBkCmp
import Derived.Test.YtlhobbfncjjeaaaRow
import Derived.Laws.Strings
import Derived.StillTailTactics
import Derived.IntWalk
namespace Go.Proofs.Ytlhobbfncjjeaaa
open Go.RowKit
/-- A slice (address a, capacity c) has these elements, of k cells each. -/
def At {α : Type} (w : World) (k : Nat) (f : α → List Value) (a : Option Addr) (c : Nat) (L : List α) : Prop :=
  L.length ≤ c ∧ c ≤ 9223372036854775807 ∧ ((a = none ∧ c = 0) ∨ ∃ b o, a = some ⟨b, o, none⟩ ∧ (L ≠ [] → b < w.heap.size) ∧ ∀ i x, L[i]? = some x → ∀ j y, (f x)[j]? = some y → w.cell? ⟨b, o + i * k + j, none⟩ = some y)
def scell (x : Str) : List Value := [.string x]
def hcel (x : Hd) : List Value := [.int .i64 x.1, .int .u64 x.2]
theorem At.below {α : Type} {w w' : World} {k : Nat} {f : α → List Value} {a : Option Addr} {c : Nat} {L : List α} (h : At w k f a c L) (hb : Below w.heap.size w w') : At w' k f a c L := by
  obtain ⟨h1, h2, h3⟩ := h
  refine ⟨h1, h2, ?_⟩
  rcases h3 with h3 | ⟨b, o, e, h4, h5⟩
  · exact .inl h3
  · exact .inr ⟨b, o, e, fun hn => Nat.lt_of_lt_of_le (h4 hn) hb.size, fun i x hx j y hy => keep hb (h5 i x hx j y hy)⟩
/-- One that has elements. -/
theorem At.some {α : Type} {w : World} {k : Nat} {f : α → List Value} {a : Option Addr} {c : Nat} {L : List α} (h : At w k f a c L) (hn : 0 < L.length) :
    ∃ b o, a = some ⟨b, o, none⟩ ∧ b < w.heap.size ∧ L.length ≤ c ∧ c ≤ 9223372036854775807 ∧ ∀ i x, L[i]? = some x → ∀ j y, (f x)[j]? = some y → w.cell? ⟨b, o + i * k + j, none⟩ = some y := by
  obtain ⟨h1, h2, h3⟩ := h
  rcases h3 with ⟨_, h3⟩ | ⟨b, o, e, h4, h5⟩
  · omega
  · exact ⟨b, o, e, h4 (by intro e; rw [e] at hn; simp at hn), h1, h2, h5⟩
theorem At.str {w : World} {a : Option Addr} {c : Nat} {L : List Str} (h : At w 1 scell a c L) (hn : 0 < L.length) :
    ∃ b o, a = Option.some ⟨b, o, none⟩ ∧ b < w.heap.size ∧ L.length ≤ c ∧ c ≤ 9223372036854775807 ∧ ∀ i x, L[i]? = Option.some x → w.cell? ⟨b, o + i, none⟩ = Option.some (.string x) := by
  obtain ⟨b, o, e, h1, h2, h3, h4⟩ := h.some hn
  refine ⟨b, o, e, h1, h2, h3, fun i x hx => ?_⟩
  have := h4 i x hx 0 _ rfl
  simpa using this
theorem str_beq (x y : Str) : (ByteArray.toList x == ByteArray.toList y) = decide (x = y) := by
  rw [ByteArray.toList_eq, ByteArray.toList_eq]
  by_cases h : x = y
  · simp [h]
  · have : ¬ x.data = y.data := fun e => h (str_ext (by rw [e]))
    simp [h, this]
theorem nCovers_any (qf : Bool) (qka : Option Addr) (qkl qkc : Nat) (qva : Option Addr) (qvl qvc : Nat) (qha : Option Addr) (qhl qhc : Nat) (qhi : Str) (qbd : Bool) (qns qng : Int) (key : Str) (w : World) : Calls Try.prog 66 #[(.agg #[.bool qf, .slice qka qkl qkc, .slice qva qvl qvc, .slice qha qhl qhc, .string qhi, .bool qbd, .int .i64 qns, .int .u64 qng]), .string key] w fun e w' => e = .returned (.bool (!qbd || slt key qhi)) ∧ Below w.heap.size w w' := by
  cases qbd with
  | false =>
    go_enter Try.func66, Try.ntmps66
    go_wp2
    go_ret
    exact ⟨rfl, (Below.refl _ _).alloc (Nat.le_refl _) _⟩
  | true =>
    have hc := fun W => compare_any key qhi W
    cases hs : slt key qhi with
    | true =>
      have hlt : scmp key qhi < 0 := by simpa [slt] using hs
      go_enter Try.func66, Try.ntmps66
      go_wp2_with (go_at_call 68; refine (hc _).mono ?_; rintro e w1 ⟨rfl, rfl⟩)
      go_ret
      exact ⟨rfl, (Below.refl _ _).alloc (Nat.le_refl _) _⟩
    | false =>
      have hlt : ¬ scmp key qhi < 0 := by simpa [slt] using hs
      go_enter Try.func66, Try.ntmps66
      go_wp2_with (go_at_call 68; refine (hc _).mono ?_; rintro e w1 ⟨rfl, rfl⟩)
      go_ret
      exact ⟨by simp [hlt], (Below.refl _ _).alloc (Nat.le_refl _) _⟩
theorem nFull_any (qf : Bool) (qka : Option Addr) (qkl qkc : Nat) (qva : Option Addr) (qvl qvc : Nat) (qha : Option Addr) (qhl qhc : Nat) (qhi : Str) (qbd : Bool) (qns qng : Int) (w : World) : Calls Try.prog 56 #[(.agg #[.bool qf, .slice qka qkl qkc, .slice qva qvl qvc, .slice qha qhl qhc, .string qhi, .bool qbd, .int .i64 qns, .int .u64 qng])] w fun e w' => e = .returned (.bool (decide (4 < qkl))) ∧ Below w.heap.size w w' := by
  by_cases h : 4 < qkl
  · have h1 : (4 : Int) < qkl := by omega
    go_enter Try.func56, Try.ntmps56
    go_wp2
    go_ret
    exact ⟨by simp [h], (Below.refl _ _).alloc (Nat.le_refl _) _⟩
  · have h1 : ¬ (4 : Int) < qkl := by omega
    go_enter Try.func56, Try.ntmps56
    go_wp2
    go_ret
    exact ⟨by simp, (Below.refl _ _).alloc (Nat.le_refl _) _⟩
theorem nFind_any (qf : Bool) (qka : Option Addr) (qkl qkc : Nat) (qva : Option Addr) (qvl qvc : Nat) (qha : Option Addr) (qhl qhc : Nat) (qhi : Str) (qbd : Bool) (qns qng : Int) (K : List Str) (key : Str) (w : World) (hK : At w 1 scell qka qkc K) (eK : K.length = qkl) :
    Calls Try.prog 44 #[(.agg #[.bool qf, .slice qka qkl qkc, .slice qva qvl qvc, .slice qha qhl qhc, .string qhi, .bool qbd, .int .i64 qns, .int .u64 qng]), .string key] w fun e w' => e = .returned (.tuple #[.int .i64 (cut key K : Nat), .bool (hasK key K)]) ∧ Below w.heap.size w w' := by
  subst eK
  have hc := fun W a b => compare_any a b W
  by_cases h0 : K.length = 0
  · have e0 : K = [] := List.length_eq_zero_iff.1 h0
    subst e0
    go_enter Try.func44, Try.ntmps44
    go_wp2
    go_loop [4] (fun i => i = .int .i64 0) (fun _ => 0)
    case atStart => rfl
    case round =>
      subst hrel
      go_wp2_with fail
      go_quiet (fail)
      go_wp2
      go_ret2
      exact ⟨rfl, below_drewN ((Below.refl _ _).alloc (Nat.le_refl _) _) _⟩
  · obtain ⟨b, o, rfl, hb, hle, hc63, hcell⟩ := hK.str (by omega)
    replace hcell := Lib.hid hcell
    have hcl := cut_le key K
    have hlow : Hid (∀ i x, i < cut key K → K[i]? = some x → scmp x key < 0) := Lib.hid fun i x h1 h2 => by simpa [slt] using cut_lt h1 h2
    have hhit : Hid (∀ x, K[cut key K]? = some x → ¬ scmp x key < 0 ∧ hasK key K = decide (x = key)) := Lib.hid fun x hx => ⟨by simpa [slt] using cut_at hx, by unfold hasK; rw [hx]⟩
    have hend : Hid (cut key K = K.length → hasK key K = false) := Lib.hid fun h => by unfold hasK; rw [List.getElem?_eq_none (by omega)]
    generalize hasK key K = r at *
    generalize cut key K = m at *
    go_enter Try.func44, Try.ntmps44
    go_wp2
    go_loop [4] (fun i => ∃ k : Nat, k ≤ m ∧ i = .int .i64 k) (fun i => K.length + 1 - (intOf i).toNat)
    case atStart => exact ⟨0, Nat.zero_le _, rfl⟩
    case round =>
      obtain ⟨k, hk, rfl⟩ := hrel
      rcases Nat.lt_or_ge k m with hlt | hge
      · have hkl : k < K.length := by omega
        obtain ⟨x, hx⟩ : ∃ x, K[k]? = some x := ⟨_, List.getElem?_eq_getElem hkl⟩
        have g1 := hcell.out k x hx
        have hneg := hlow.out k x hlt hx
        go_wp2_with (go_at_call 68; refine (hc _ _ _).mono ?_; rintro e w1 ⟨rfl, rfl⟩)
        go_round
        case rel => exact ⟨k + 1, by omega, by go_num⟩
        case measure => simp [intOf]; omega
      · obtain rfl : k = m := by omega
        by_cases hkl : k < K.length
        · obtain ⟨x, hx⟩ : ∃ x, K[k]? = some x := ⟨_, List.getElem?_eq_getElem hkl⟩
          have g1 := hcell.out _ x hx
          obtain ⟨hneg, hr⟩ := hhit.out x hx
          replace hr := Lib.hid hr
          clear hx
          go_wp2_with (go_at_call 68; refine (hc _ _ _).mono ?_; rintro e w1 ⟨rfl, rfl⟩)
          go_quiet (fail)
          go_wp2
          go_ret2
          exact ⟨by simp [hr.out, str_beq], below_drewN ((Below.refl _ _).alloc (Nat.le_refl _) _) _⟩
        · obtain rfl : k = K.length := by omega
          go_wp2
          go_quiet (fail)
          go_wp2
          go_ret2
          exact ⟨by simp [hend.out trivial], below_drewN ((Below.refl _ _).alloc (Nat.le_refl _) _) _⟩
end Go.Proofs.Ytlhobbfncjjeaaa
namespace Go.Proofs.Ytlhobbfncjjeaaa
open Go.RowKit
/-- The cells of a node that lies in a block. -/
theorem node_cells (qf : Bool) (qka : Option Addr) (qkl qkc : Nat) (qva : Option Addr) (qvl qvc : Nat) (qha : Option Addr) (qhl qhc : Nat) (qhi : Str) (qbd : Bool) (qns qng : Int) {w : World} {q : Nat} (h : w.heap[q]? = some (.cells #[.bool qf, .slice qka qkl qkc, .slice qva qvl qvc, .slice qha qhl qhc, .string qhi, .bool qbd, .int .i64 qns, .int .u64 qng] 89)) :
    w.cell? ⟨q, 0, none⟩ = some (.bool qf) ∧ w.cell? ⟨q, 1, none⟩ = some (.slice qka qkl qkc) ∧ w.cell? ⟨q, 2, none⟩ = some (.slice qva qvl qvc) ∧ w.cell? ⟨q, 3, none⟩ = some (.slice qha qhl qhc) ∧
    w.cell? ⟨q, 4, none⟩ = some (.string qhi) ∧ w.cell? ⟨q, 5, none⟩ = some (.bool qbd) ∧ w.cell? ⟨q, 6, none⟩ = some (.int .i64 qns) ∧ w.cell? ⟨q, 7, none⟩ = some (.int .u64 qng) := by
  refine ⟨?_, ?_, ?_, ?_, ?_, ?_, ?_, ?_⟩ <;> rw [cell_of_heap h] <;> rfl
/-- A node that is right: as Right looks at it. -/
theorem nRight_any (qf : Bool) (qka : Option Addr) (qkl qkc : Nat) (qva : Option Addr) (qvl qvc : Nat) (qha : Option Addr) (qhl qhc : Nat) (qhi : Str) (qbd : Bool) (qns qng : Int) (K : List Str) (w : World) (hK : At w 1 scell qka qkc K) (eK : K.length = qkl) (hr : Rises K) (hcv : ∀ k, k ∈ K → (!qbd || slt k qhi) = true) (h0 : qbd = false → qhi = s0)
    (hs : (qf = true ∧ qvl = qkl ∧ qhl = 0) ∨ (qf = false ∧ qvl = 0 ∧ qhl = qkl + 1)) (hsm : qkl ≤ 1000) :
    Calls Try.prog 69 #[(.agg #[.bool qf, .slice qka qkl qkc, .slice qva qvl qvc, .slice qha qhl qhc, .string qhi, .bool qbd, .int .i64 qns, .int .u64 qng])] w fun e w' => e = .returned (.bool true) ∧ Below w.heap.size w w' := by
  subst eK
  have hc := fun W a b => compare_any a b W
  have hcov := Lib.hid fun key W => nCovers_any qf qka K.length qkc qva qvl qvc qha qhl qhc qhi qbd qns qng key W
  replace hr := Lib.hid hr
  replace hcv := Lib.hid hcv
  replace hs := Lib.hid hs
  replace h0 := Lib.hid h0
  have hKl : K.length ≤ 9223372036854775807 := Nat.le_trans hK.1 hK.2.1
  replace hK := Lib.hid hK
  have hw1 : IntKind.i64.wrap ((K.length : Int) + 1) = (K.length : Int) + 1 := IntWalk.i64_in _ (by omega)
  go_enter Try.func69, Try.ntmps69
  go_wp2
  go_loopw [8] (fun i wr => ∃ k : Nat, k ≤ K.length ∧ i = .int .i64 k ∧ Below w.heap.size w wr ∧ wr.heap[w.heap.size]? = some (.cells #[.bool qf, .slice qka K.length qkc, .slice qva qvl qvc, .slice qha qhl qhc, .string qhi, .bool qbd, .int .i64 qns, .int .u64 qng] 89)) (fun i _ => K.length + 1 - (intOf i).toNat)
  case atStart => exact ⟨0, Nat.zero_le _, rfl, (Below.refl _ _).alloc (Nat.le_refl _) _, heap_alloc_new _ _⟩
  case round =>
    obtain ⟨k, hk, rfl, hB, hbx⟩ := hrel
    obtain ⟨c0, c1, c2, c3, c4, c5, c6, c7⟩ := node_cells _ _ _ _ _ _ _ _ _ _ _ _ _ _ hbx
    have hqs : w.heap.size < wr.heap.size := heap_lt hbx
    by_cases hkl : k < K.length
    · obtain ⟨b, o, rfl, hb, hle, hc63, hcell⟩ := hK.out.str (by omega)
      replace hcell := Lib.hid hcell
      obtain ⟨x, hx⟩ : ∃ x, K[k]? = some x := ⟨_, List.getElem?_eq_getElem hkl⟩
      have g1 := keep hB (hcell.out k x hx)
      have hcx := fun W => hcov.out x W
      rw [hcv.out x (List.mem_of_getElem? hx)] at hcx
      have hbr : b < wr.heap.size := block_lt_of_cell g1
      rcases k with _ | k
      · rw [Nat.add_zero] at g1
        go_wp2_with (first | (go_at_call 68; refine (hc _ _ _).mono ?_; rintro e w1 ⟨rfl, rfl⟩) | (go_at_call 66; refine (hcx _).mono ?_; rintro e w1 ⟨rfl, hb1⟩))
        go_roundw
        case rel => exact ⟨1, by omega, by go_num, hB.trans (hb1.mono hB.size), Below.heap' hb1 hbx⟩
        case measure => simp [intOf]
      · obtain ⟨y, hy⟩ : ∃ y, K[k]? = some y := ⟨_, List.getElem?_eq_getElem (by omega)⟩
        have g2 := keep hB (hcell.out k y hy)
        have e1 : ((k + 1 : Nat) : Int) - 1 = k := by omega
        have e2 : (0 : Int) < ((k + 1 : Nat) : Int) := by omega
        have e3 : k < K.length := by omega
        have e4 : ¬ (0 : Int) ≤ scmp y x := by
          have := rise_lt hr.out (Nat.lt_succ_self k) hy hx
          simp only [slt, decide_eq_true_eq] at this
          omega
        go_wp2_with (first | (go_at_call 68; refine (hc _ _ _).mono ?_; rintro e w1 ⟨rfl, rfl⟩) | (go_at_call 66; refine (hcx _).mono ?_; rintro e w1 ⟨rfl, hb1⟩))
        go_roundw
        case rel => exact ⟨k + 2, by omega, by go_num, hB.trans (hb1.mono hB.size), Below.heap' hb1 hbx⟩
        case measure => simp [intOf]; omega
    · obtain rfl : k = K.length := by omega
      rcases hs.out with ⟨rfl, rfl, rfl⟩ | ⟨rfl, rfl, rfl⟩
      · cases qbd with
        | true =>
          go_wp2
          go_ret
          exact ⟨by simp, hB⟩
        | false =>
          have e0 := h0.out rfl
          subst e0
          go_wp2
          go_ret
          exact ⟨by simp, hB⟩
      · cases qbd with
        | true =>
          go_wp2
          go_ret
          exact ⟨by simp, hB⟩
        | false =>
          have e0 := h0.out rfl
          subst e0
          go_wp2
          go_ret
          exact ⟨by simp, hB⟩
end Go.Proofs.Ytlhobbfncjjeaaa
namespace Go.Proofs.Ytlhobbfncjjeaaa
open Go.RowKit
/-- A node's slices. -/
def NodeAt (w : World) (n : BN) (qka qva qha : Option Addr) (qkc qvc qhc : Nat) : Prop := At w 1 scell qka qkc n.keys ∧ At w 1 scell qva qvc n.vals ∧ At w 2 hcel qha qhc n.kids
theorem NodeAt.below {w w' : World} (n : BN) (qka qva qha : Option Addr) (qkc qvc qhc : Nat) (h : NodeAt w n qka qva qha qkc qvc qhc) (hb : Below w.heap.size w w') : NodeAt w' n qka qva qha qkc qvc qhc := ⟨h.1.below hb, h.2.1.below hb, h.2.2.below hb⟩
/-- What Right asks. -/
theorem NodeOK.shape {lo : Str} {n : BN} (h : NodeOK lo n) : (n.leaf = true ∧ n.vals.length = n.keys.length ∧ n.kids.length = 0) ∨ (n.leaf = false ∧ n.vals.length = 0 ∧ n.kids.length = n.keys.length + 1) := by
  cases hl : n.leaf
  · exact .inr ⟨rfl, by rw [(h.inn hl).1]; rfl, (h.inn hl).2⟩
  · exact .inl ⟨rfl, (h.lf hl).1, by rw [(h.lf hl).2]; rfl⟩
theorem nRight_ok (n : BN) (qka qva qha : Option Addr) (qkc qvc qhc : Nat) {lo : Str} (w : World) (h : NodeOK lo n) (hn : NodeAt w n qka qva qha qkc qvc qhc) (hsm : n.keys.length ≤ 1000) : Calls Try.prog 69 #[.agg #[.bool n.leaf, .slice qka n.keys.length qkc, .slice qva n.vals.length qvc, .slice qha n.kids.length qhc, .string n.high, .bool n.bnd, .int .i64 n.next.1, .int .u64 n.next.2]] w fun e w' => e = .returned (.bool true) ∧ Below w.heap.size w w' :=
  nRight_any _ _ _ _ _ _ _ _ _ _ _ _ _ _ n.keys w hn.1 rfl h.rise h.cov h.hi0 h.shape hsm
theorem nTakes_ok (n : BN) (qka qva qha : Option Addr) (qkc qvc qhc : Nat) {lo : Str} (key : Str) (w : World) (h : NodeOK lo n) (hn : NodeAt w n qka qva qha qkc qvc qhc) (hsm : n.keys.length ≤ 1000) (hl : n.leaf = true) (hc : n.covers key = true) :
    Calls Try.prog 72 #[.agg #[.bool n.leaf, .slice qka n.keys.length qkc, .slice qva n.vals.length qvc, .slice qha n.kids.length qhc, .string n.high, .bool n.bnd, .int .i64 n.next.1, .int .u64 n.next.2], .string key] w fun e w' => e = .returned (.bool true) ∧ Below w.heap.size w w' := by
  have hR := Lib.hid fun W hW => nRight_ok n qka qva qha qkc qvc qhc W h (hn.below n qka qva qha qkc qvc qhc hW) hsm
  have hC := Lib.hid fun W => nCovers_any n.leaf qka n.keys.length qkc qva n.vals.length qvc qha n.kids.length qhc n.high n.bnd n.next.1 n.next.2 key W
  rw [show (!n.bnd || slt key n.high) = true from hc] at hC
  obtain ⟨lf, K, V, H, hi, bd, nx⟩ := n
  simp only at hl hR hC ⊢
  subst hl
  clear h hn hc hsm
  go_enter Try.func72, Try.ntmps72
  go_wp2_with fail
  refine (hR.out _ ((Below.refl _ _).alloc (Nat.le_refl _) _)).mono ?_
  rintro e w1 ⟨rfl, hb1⟩
  have hbx := Below.heap' hb1 (heap_alloc_new w _)
  obtain ⟨c0, c1, c2, c3, c4, c5, c6, c7⟩ := node_cells _ _ _ _ _ _ _ _ _ _ _ _ _ _ hbx
  have hqs := heap_lt hbx
  go_wp2_with fail
  refine (hC.out _).mono ?_
  rintro e w2 ⟨rfl, hb2⟩
  go_wp2_with fail
  go_ret
  exact ⟨rfl, ((Below.refl _ _).alloc (Nat.le_refl _) _).trans ((hb1.trans (hb2.mono hb1.size)).mono (by simp))⟩
theorem heap_two (w : World) (o o' : Obj) : ((w.alloc o).alloc o').heap[w.heap.size]? = some o ∧ ((w.alloc o).alloc o').heap[w.heap.size + 1]? = some o' := by
  refine ⟨heap_alloc_old _ (heap_alloc_new _ _), ?_⟩
  have := heap_alloc_new (w.alloc o) o'
  simpa using this
theorem below_two (w : World) (o o' : Obj) : Below w.heap.size w ((w.alloc o).alloc o') := ((Below.refl _ _).alloc (Nat.le_refl _) _).alloc (by simp) _
theorem nKid_ok (n : BN) (qka qva qha : Option Addr) (qkc qvc qhc : Nat) {lo : Str} (key : Str) (h : Hd) (w : World) (ho : NodeOK lo n) (hn : NodeAt w n qka qva qha qkc qvc qhc) (hsm : n.keys.length ≤ 1000) (hl : n.leaf = false) (hc : n.covers key = true) (hh : n.kids[cutE key n.keys]? = some h) :
    Calls Try.prog 67 #[.agg #[.bool n.leaf, .slice qka n.keys.length qkc, .slice qva n.vals.length qvc, .slice qha n.kids.length qhc, .string n.high, .bool n.bnd, .int .i64 n.next.1, .int .u64 n.next.2], .string key] w fun e w' => e = .returned (.tuple #[.agg #[.int .i64 h.1, .int .u64 h.2], .bool true]) ∧ Below w.heap.size w w' := by
  have hR := Lib.hid fun W hW => nRight_ok n qka qva qha qkc qvc qhc W ho (hn.below n qka qva qha qkc qvc qhc hW) hsm
  have hC := Lib.hid fun W => nCovers_any n.leaf qka n.keys.length qkc qva n.vals.length qvc qha n.kids.length qhc n.high n.bnd n.next.1 n.next.2 key W
  rw [show (!n.bnd || slt key n.high) = true from hc] at hC
  have hF := Lib.hid fun W (hW : Below w.heap.size w W) => nFind_any n.leaf qka n.keys.length qkc qva n.vals.length qvc qha n.kids.length qhc n.high n.bnd n.next.1 n.next.2 n.keys key W (hn.1.below hW) rfl
  have hcc := cutE_eq (k := key) ho.rise
  rw [hcc] at hh
  have hcl := cut_le key n.keys
  have hlt := (List.getElem?_eq_some_iff.1 hh).1
  obtain ⟨b, o, rfl, hb, hle, hc63, hcell⟩ := hn.2.2.some (by omega)
  have g0 := hcell _ _ hh 0 _ rfl
  have g1 := hcell _ _ hh 1 _ rfl
  clear hcell hcc
  obtain ⟨lf, K, V, H, hi, bd, nx⟩ := n
  simp only at hl hR hC hF hh hcl hlt hsm hle g0 g1 ⊢
  subst hl
  clear ho hn hc hh
  generalize hasK key K = r at *
  generalize cut key K = m at *
  have hw1 : IntKind.i64.wrap ((m : Int) + 1) = (m : Int) + 1 := IntWalk.i64_in _ (by omega)
  replace g0 := Lib.hid g0
  replace g1 := Lib.hid g1
  go_enter Try.func67, Try.ntmps67
  go_wp2_with fail
  refine (hR.out _ (below_two _ _ _)).mono ?_
  rintro e w1 ⟨rfl, hb1⟩
  obtain ⟨hbx, hby⟩ := heap_two w (.cells #[.bool false, .slice qka K.length qkc, .slice qva V.length qvc, .slice (some ⟨b, o, none⟩) H.length qhc, .string hi, .bool bd, .int .i64 nx.1, .int .u64 nx.2] 89) (.cells #[.int .i64 0, .int .u64 0] 70)
  replace hbx := Below.heap' hb1 hbx
  replace hby := Below.heap' hb1 hby
  have hB1 := (below_two w (.cells #[.bool false, .slice qka K.length qkc, .slice qva V.length qvc, .slice (some ⟨b, o, none⟩) H.length qhc, .string hi, .bool bd, .int .i64 nx.1, .int .u64 nx.2] 89) (.cells #[.int .i64 0, .int .u64 0] 70)).trans (hb1.mono (by simp; omega))
  clear hb1
  obtain ⟨c0, c1, c2, c3, c4, c5, c6, c7⟩ := node_cells _ _ _ _ _ _ _ _ _ _ _ _ _ _ hbx
  have hqs := heap_lt hby
  go_wp2_with fail
  refine (hC.out _).mono ?_
  rintro e w2 ⟨rfl, hb2⟩
  replace hbx := Below.heap' hb2 hbx
  replace hby := Below.heap' hb2 hby
  have hB2 := hB1.trans (hb2.mono hB1.size)
  clear c0 c1 c2 c3 c4 c5 c6 c7 hb2 hB1 hqs
  obtain ⟨c0, c1, c2, c3, c4, c5, c6, c7⟩ := node_cells _ _ _ _ _ _ _ _ _ _ _ _ _ _ hbx
  have hqs := heap_lt hby
  go_wp2_with fail
  refine (hF.out _ hB2).mono ?_
  rintro e w3 ⟨rfl, hb3⟩
  replace hbx := Below.heap' hb3 hbx
  replace hby := Below.heap' hb3 hby
  have hB3 := hB2.trans (hb3.mono hB2.size)
  clear c0 c1 c2 c3 c4 c5 c6 c7 hb3 hB2 hqs
  obtain ⟨c0, c1, c2, c3, c4, c5, c6, c7⟩ := node_cells _ _ _ _ _ _ _ _ _ _ _ _ _ _ hbx
  have d0 : w3.cell? ⟨w.heap.size + 1, 0, none⟩ = some (.int .i64 0) := by rw [cell_of_heap hby]; rfl
  have d1 : w3.cell? ⟨w.heap.size + 1, 1, none⟩ = some (.int .u64 0) := by rw [cell_of_heap hby]; rfl
  have f0 : w3.frozen? ⟨w.heap.size + 1, 0, none⟩ = false := frozen_of_heap hby _
  have f1 : w3.frozen? ⟨w.heap.size + 1, 1, none⟩ = false := frozen_of_heap hby _
  have hqs := heap_lt hby
  have k0 := keep hB3 g0.out
  have k1 := keep hB3 g1.out
  replace hB3 := Lib.hid hB3
  cases r with
  | true =>
    simp only [if_true, Nat.add_zero] at hlt k0 k1
    go_wp2_with fail
    refine bodyPost_ret (v := .tuple #[.agg #[.int .i64 h.1, .int .u64 h.2], .bool true]) (by simp [results, Try.results67, go_sem, d0, d1]) rfl ⟨rfl, ?_⟩
    exact (hB3.out.setCell (p := ⟨w.heap.size + 1, 0, none⟩) (by simp) _).setCell (p := ⟨w.heap.size + 1, 1, none⟩) (by simp) _
  | false =>
    simp only [Bool.false_eq_true, if_false, Nat.add_zero] at hlt k0 k1
    go_wp2_with fail
    refine bodyPost_ret (v := .tuple #[.agg #[.int .i64 h.1, .int .u64 h.2], .bool true]) (by simp [results, Try.results67, go_sem, d0, d1]) rfl ⟨rfl, ?_⟩
    exact (hB3.out.setCell (p := ⟨w.heap.size + 1, 0, none⟩) (by simp) _).setCell (p := ⟨w.heap.size + 1, 1, none⟩) (by simp) _
end Go.Proofs.Ytlhobbfncjjeaaa
