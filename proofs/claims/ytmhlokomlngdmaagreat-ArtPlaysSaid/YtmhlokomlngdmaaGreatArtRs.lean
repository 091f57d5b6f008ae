/- Two texts: how far they are alike, and what is left behind a prefix. A reader of a trie: what happens at its looks is the law's own. A reader's below: the children from a byte on. A reader's seek: the least key at and below a node that is not below a key, or above it. -/
import Derived.Test.YtmhlokomlngdmaaGreatArtN
import Derived.Test.YtmhlokomlngdmaaGreatBSearch
import Derived.Test.YtmhlokomlngdmaaGreatLib
import Derived.Test.YtmhlokomlngdmaaGreatProg
import Derived.Lib.Strings
import Derived.Lib.Slices
import Derived.Lib.Walk
import Derived.WalkLawsBesides
import Derived.WalkSpells
import Derived.Outline
import Derived.BigQuiet
import Derived.WalkSmall
import Derived.RegionTactic
import Derived.IntWalk
import Derived.Deep.LoopGhost
import Derived.LoopTactic
import Derived.Test.YtmhlokomlngdmaaGreatArtW
import Derived.Test.YtmhlokomlngdmaaGreatArtIm
import Derived.Laws.IdiomStrings
import Derived.Deep.CutBlock
import Derived.Deep.DeepCutAuto
namespace Go.Proofs.YtmhlokomlngdmaaGreat
open Go.Lib Go.RowKit
theorem bl_size (a : Str) : (bl a).length = a.size := Array.length_toList
theorem hasPrefix_iff (s p : Byt) : Lib.hasPrefix s p = true ↔ p <+: s := by
  unfold Lib.hasPrefix
  exact List.isPrefixOf_iff_prefix
set_option maxHeartbeats 1000000 in
theorem cutPrefix_any (s p : Str) (w : World) :
    Calls Tryz.prog 53 #[.string s, .string p] w fun e w' => ((∃ t : Str, bl s = bl p ++ bl t ∧ e = .returned (.tuple #[.string t, .bool true])) ∨ (¬ bl p <+: bl s ∧ e = .returned (.tuple #[.string s, .bool false]))) ∧ w = w' := by
  have h1 : Calls Tryz.prog 53 #[.string s, .string p] w fun e w' => e = .returned (.tuple #[.string ⟨(Lib.trimPrefix s.data.toList p.data.toList).toArray⟩, .bool (Lib.hasPrefix s.data.toList p.data.toList)]) ∧ w' = w := by
    go_enter Tryz.func53, Tryz.ntmps53
    go_wp2
    · have h2 : (!((s.extract 0 p.size).toList == p.toList)) = true := by assumption
      have h3 : (decide (p.size ≤ s.size) && ((s.extract 0 p.size).toList == p.toList)) = false := by
        have : ((s.extract 0 p.size).toList == p.toList) = false := by simpa using h2
        rw [this]
        simp
      go_ret2
      refine ⟨?_, rfl⟩
      rw [Lib.trimPrefix_miss s p h3, ← Lib.hasPrefix_raw, h3]
      rfl
    · have h1 : p.size ≤ s.size := by assumption
      have h2 : (!((s.extract 0 p.size).toList == p.toList)) = false := by assumption
      have h2' : ((s.extract 0 p.size).toList == p.toList) = true := by simpa using h2
      go_ret2
      refine ⟨?_, rfl⟩
      rw [Lib.trimPrefix_hit s p h1 h2', ← Lib.hasPrefix_raw, h2', decide_eq_true h1]
      rfl
    · have h1 : ¬ p.size ≤ s.size := by assumption
      have h3 : (decide (p.size ≤ s.size) && ((s.extract 0 p.size).toList == p.toList)) = false := by simp [h1]
      go_ret2
      refine ⟨?_, rfl⟩
      rw [Lib.trimPrefix_miss s p h3, ← Lib.hasPrefix_raw, h3]
      rfl
  refine h1.mono ?_
  rintro e w' ⟨rfl, rfl⟩
  refine ⟨?_, rfl⟩
  cases hp : Lib.hasPrefix s.data.toList p.data.toList with
  | true =>
    left
    obtain ⟨t, ht⟩ := (hasPrefix_iff _ _).1 hp
    refine ⟨bs t, by rw [bl_bs]; exact ht.symm, ?_⟩
    have : Lib.trimPrefix s.data.toList p.data.toList = t := by
      unfold Lib.trimPrefix
      rw [if_pos hp, ← ht]
      exact List.drop_left
    rw [this]
  | false =>
    right
    refine ⟨fun hh => (by rw [(hasPrefix_iff _ _).2 hh] at hp; cases hp), ?_⟩
    have : Lib.trimPrefix s.data.toList p.data.toList = s.data.toList := by
      unfold Lib.trimPrefix
      rw [if_neg (by rw [hp]; exact Bool.false_ne_true)]
    rw [this]
/-- How far two rows of bytes are alike. -/
theorem cpre_at : ∀ (a b : Byt) (i : Nat), i ≤ a.length → i ≤ b.length → (∀ j, j < i → a[j]? = b[j]?) → (i = a.length ∨ i = b.length ∨ a[i]? ≠ b[i]?) → (cpre a b).length = i
  | [], b, i, h1, _, _, _ => by simp at h1; subst h1; simp [cpre]
  | _ :: _, [], i, _, h2, _, _ => by simp at h2; subst h2; simp [cpre]
  | x :: a, y :: b, 0, _, _, _, h4 => by
    unfold cpre
    have : x ≠ y := by
      rcases h4 with h4 | h4 | h4
      · simp at h4
      · simp at h4
      · simpa using h4
    rw [if_neg this, List.length_nil]
  | x :: a, y :: b, i + 1, h1, h2, h3, h4 => by
    have h0 := h3 0 (by omega)
    simp at h0
    unfold cpre
    rw [if_pos h0, List.length_cons, cpre_at a b i (by simpa using h1) (by simpa using h2) (fun j hj => by simpa using h3 (j + 1) (by omega)) (by simpa using h4)]
theorem cpre_split (a b : Byt) : ∃ s t, a = cpre a b ++ s ∧ b = cpre a b ++ t ∧ (s = [] ∨ t = [] ∨ ∃ x y s' t', s = x :: s' ∧ t = y :: t' ∧ x ≠ y) := by
  obtain ⟨s, hs⟩ := cpre_l a b
  obtain ⟨t, ht⟩ := cpre_r a b
  refine ⟨s, t, hs.symm, ht.symm, ?_⟩
  cases s with
  | nil => exact .inl rfl
  | cons x s =>
    cases t with
    | nil => exact .inr (.inl rfl)
    | cons y t =>
      refine .inr (.inr ⟨x, y, s, t, rfl, rfl, fun hh => ?_⟩)
      subst hh
      have := (cpre_max (p := cpre a b ++ [x]) (a := a) (b := b) ⟨s, by rw [List.append_assoc]; exact hs⟩ ⟨t, by rw [List.append_assoc]; exact ht⟩).length_le
      rw [List.length_append, List.length_singleton] at this
      omega
theorem bl_get {a : Str} {i : Nat} (h : i < a.size) : (bl a)[i]? = some (a.get i h) := by
  have : i < a.data.size := h
  simp [ByteArray.get]
set_option maxRecDepth 100000 in
theorem common_any (a b : Str) (w : World) (ha : a.size ≤ 9223372036854775807) :
    Calls Tryz.prog 44 #[.string a, .string b] w fun e w' => e = .returned (.int .i64 (cpre (bl a) (bl b)).length) ∧ Below w.heap.size w w' := by
  have hsz1 := bl_size a
  have hsz2 := bl_size b
  obtain ⟨n, hn⟩ : ∃ n : Nat, n = if a.size ≤ b.size then a.size else b.size := ⟨_, rfl⟩
  have hna : n ≤ a.size := by rw [hn]; split <;> omega
  have hnb : n ≤ b.size := by rw [hn]; split <;> omega
  have hnn : n = a.size ∨ n = b.size := by rw [hn]; split <;> simp
  have hmin : min (a.size : Int) (b.size : Int) = n := by rw [hn]; split <;> omega
  replace hn := Lib.hid hn
  replace hsz1 := Lib.hid hsz1
  replace hsz2 := Lib.hid hsz2
  go_enter Tryz.func44, Tryz.ntmps44
  go_wp2_with fail
  go_loopg [13] (n + 1) (fun gk v13 wr => ∃ i : Nat, gk = n + 1 - i ∧ v13 = .int .i64 i ∧ i ≤ n ∧ (∀ j, j < i → (bl a)[j]? = (bl b)[j]?) ∧ Below w.heap.size w wr)
  case atStart => exact ⟨0, rfl, rfl, Nat.zero_le _, fun j hj => absurd hj (Nat.not_lt_zero _), Below.refl _ _⟩
  case round =>
    obtain ⟨i, rfl, rfl, hi, hall, hBw⟩ := hrel
    replace hBw := Lib.hid hBw
    replace hall := Lib.hid hall
    by_cases hlt : i < n
    · have hia : i < a.size := by omega
      have hib : i < b.size := by omega
      have ga : ∀ W, (Instr.index 9 (.string a) (.int .i64 (i : Nat))).run Tryz.prog W = .ok (.int .u8 (a.get i hia).toNat) W := fun W => by
        rw [run_index_string W _ a _ _ Tryz.underlying9, dif_pos (by omega)]; rfl
      have gb : ∀ W, (Instr.index 9 (.string b) (.int .i64 (i : Nat))).run Tryz.prog W = .ok (.int .u8 (b.get i hib).toNat) W := fun W => by
        rw [run_index_string W _ b _ _ Tryz.underlying9, dif_pos (by omega)]; rfl
      have ea := Lib.hid (bl_get hia)
      have eb := Lib.hid (bl_get hib)
      generalize a.get i hia = x at *
      generalize b.get i hib = y at *
      have hxy := u8_eq_int x y
      cases hd : decide (x = y) with
      | true =>
        rw [hd] at hxy
        replace hd := Lib.hid (of_decide_eq_true hd)
        go_wp2_with fail
        go_region
        all_goals
          go_wp2_with fail
        go_roundg (n + 1 - (i + 1))
        case rel =>
          refine ⟨i + 1, rfl, by go_num, by omega, fun j hj => ?_, hBw.out.drew⟩
          by_cases hji : j < i
          · exact hall.out j hji
          · obtain rfl : j = i := by omega
            rw [ea.out, eb.out, hd.out]
        case measure => omega
      | false =>
        rw [hd] at hxy
        replace hd := Lib.hid (of_decide_eq_false hd)
        go_wp2_with fail
        go_region
        all_goals
          go_wp2_with fail
        go_ret
        refine ⟨?_, hBw.out.drew⟩
        rw [cpre_at (bl a) (bl b) i (by rw [hsz1.out]; omega) (by rw [hsz2.out]; omega) hall.out (.inr (.inr (by rw [ea.out, eb.out]; intro hh; injection hh with hh; exact hd.out hh)))]
        rfl
    · obtain rfl : i = n := by omega
      have hc := Lib.hid (cpre_at (bl a) (bl b) i (by rw [hsz1.out]; omega) (by rw [hsz2.out]; omega) hall.out (by rw [hsz1.out, hsz2.out]; exact hnn.elim .inl (fun h => .inr (.inl h))))
      clear hnn
      go_wp2_with fail
      go_ret
      rw [hc.out]
      exact ⟨rfl, hBw.out⟩
end Go.Proofs.YtmhlokomlngdmaaGreat
namespace Go.Proofs.YtmhlokomlngdmaaGreat
open Go.RowKit
/-- A state: looks that may still turn something, how often something was done, the tree, all children that there were. -/
structure RS where
  m : Nat
  d : Nat
  ρ : Nat → Nat
  F : AF
  C : Cont
  K : Nat → Option KL
  k : Nat
/-- How often may be looked. -/
def KM : Nat := 4611686018427387904
structure RStep (rs : List Nat) (w w' : World) (s s' : RS) : Prop where
  ru : RU rs w w' s.ρ s'.ρ
  m : s'.m ≤ s.m
  d : s.d ≤ s'.d
  same : s'.d = s.d → s'.F = s.F ∧ s'.C = s.C ∧ s'.K = s.K
  kd : ∀ nb, (s.K nb).isSome = true → (s'.K nb).isSome = true
  zero : s.m = 0 → s'.d = s.d
  k : s.k ≤ s'.k
  km : s'.m ≠ 0 → s'.k + s'.m ≤ s.k + s.m
theorem RStep.trans {rs : List Nat} {w w1 w2 : World} {s s1 s2 : RS} (h : RStep rs w w1 s s1) (k : RStep rs w1 w2 s1 s2) : RStep rs w w2 s s2 :=
  ⟨h.ru.trans k.ru, Nat.le_trans k.m h.m, Nat.le_trans h.d k.d, fun hd => by
    have h1 := h.d
    have h2 := k.d
    obtain ⟨a1, a2, a3⟩ := h.same (by omega)
    obtain ⟨b1, b2, b3⟩ := k.same (by omega)
    exact ⟨b1.trans a1, b2.trans a2, b3.trans a3⟩, fun nb hh => k.kd nb (h.kd nb hh), fun hz => by
    have h1 := h.zero hz
    have h2 := h.m
    exact (k.zero (by omega)).trans h1, Nat.le_trans h.k k.k, fun hn => by
    have h1 := k.km hn
    have h2 := k.m
    have h3 := h.km (by omega)
    omega⟩
def nV (n : AN) : Value := .agg #[.string n.pre, .string (n.val.getD s0), .bool n.val.isSome, .pointer (some ⟨n.nb, 0, none⟩)]
def fK (f : Option (Str × Str)) : Str := match f with | some x => x.1 | none => s0
def fX (f : Option (Str × Str)) : Str := match f with | some x => x.2 | none => s0
def fV (f : Option (Str × Str)) : Value := .agg #[.string (fK f), .string (fX f), .bool f.isSome]
/-- What a look hands back. -/
def NodeEnd (rs : List Nat) (St : RS → Bool → World → Prop) (s : RS) (g : Bool) (h : Hd) (w : World) (e : Ending) (w' : World) : Prop :=
  ∃ s', RStep rs w w' s s' ∧ ((s.m = 0 ∨ s'.m + 1 = s.m) ∧ s'.k = s.k + 1) ∧ ((∃ n, (h, n) ∈ s'.F ∧ e = .returned (.tuple #[nV n, .bool true]) ∧ St s' g w') ∨
    ((∀ x, x ∈ s'.F → x.1 ≠ h) ∧ e = .returned (.tuple #[.agg #[.string ⟨#[]⟩, .string ⟨#[]⟩, .bool false, .pointer none], .bool false]) ∧ St s' true w'))
structure Rdr (w0 : World) (r : Hd) (wk : Nat) (rs : List Nat) (St : RS → Bool → World → Prop) : Prop where
  h0 : 0 ∉ rs
  ok : ∀ s g w, St s g w → AOK s.F r ∧ ACt s.F s.C ∧ (∀ x, x ∈ s.F → s.K x.2.nb = some x.2.kids) ∧ (∀ x, x ∈ s.F → x.2.path.length ≤ 600) ∧ s.F.length ≤ 4096
  ro : ∀ s g w, St s g w → Ro w0 w s.ρ
  again : ∀ s g w, St s g w → w.cell? ⟨wk, 2, none⟩ = some (.bool g) ∧ wk < w.heap.size
  kids : ∀ s g w nb L, St s g w → s.K nb = some L → ∃ B, KAt w nb B L
  wr : ∀ s g w w' S, St s g w → Upd S w w' → (∀ q, q ∈ S → w0.heap.size ≤ q ∧ s.ρ q = 0) → St s g w'
  node : ∀ s g w h, St s g w → s.k + 1 ≤ KM → Calls Tryz.prog 58 #[.pointer (some ⟨wk, 0, none⟩), hV h] w (NodeEnd rs St s g h w)
section
variable {w0 w w' : World} {r : Hd} {wk : Nat} {rs : List Nat} {St : RS → Bool → World → Prop} {s s1 s2 : RS} {g : Bool}
theorem Rdr.bel (R : Rdr w0 r wk rs St) (h : St s g w) (hb : Below w.heap.size w w') : St s g w' := R.wr s g w w' [] h (Upd.of_below hb) (by simp)
theorem Rdr.stepB (R : Rdr w0 r wk rs St) (h : St s g w) (hb : Below w.heap.size w w') : RStep rs w w' s s :=
  ⟨RU.below (R.ro _ _ _ h) hb, Nat.le_refl _, Nat.le_refl _, fun _ => ⟨rfl, rfl, rfl⟩, fun _ h => h, fun _ => rfl, Nat.le_refl _, fun _ => Nat.le_refl _⟩
/-- Below in front of a step. -/
theorem RStep.bel {wx : World} (R : Rdr w0 r wk rs St) (h : St s g w) (hb : Below w.heap.size w wx) (k : RStep rs wx w' s s1) : RStep rs w w' s s1 := (R.stepB h hb).trans k
/-- The walker's own boxes are written behind a step. -/
theorem RStep.own {wx : World} {S : List Nat} (h : RStep rs w wx s s1) (hu : Upd S wx w') (hS : ∀ q, q ∈ S → w.heap.size ≤ q) (R : Rdr w0 r wk rs St) (hSt : St s1 g wx) : RStep rs w w' s s1 := by
  have hro := R.ro _ _ _ hSt
  refine ⟨⟨hu.os.trans h.ru.os, hu.tape.trans h.ru.tape, hu.output.trans h.ru.output, Nat.le_trans h.ru.size hu.size, fun k hk hn => ?_, h.ru.role, fun k hk => hro.far k (Nat.le_trans hu.size hk)⟩, h.m, h.d, h.same, h.kd, h.zero, h.k, h.km⟩
  rw [hu.block k (Nat.lt_of_lt_of_le hk h.ru.size) (fun hm => by have := hS k hm; omega)]
  exact h.ru.block k hk hn
def LeastEnd (rs : List Nat) (St : RS → Bool → World → Prop) (s : RS) (g : Bool) (h : Hd) (path : Str) (X : Nat) (w : World) (e : Ending) (w' : World) : Prop :=
  ∃ s' g' f, e = .returned (fV f) ∧ St s' g' w' ∧ RStep rs w w' s s' ∧ ((s.m = 0 ∨ s'.m + 1 ≤ s.m) ∧ s'.k ≤ X) ∧
    (s'.d = s.d → g = false → ∀ n, (h, n) ∈ s.F → n.path = bl path ++ bl n.pre → g' = false ∧ f = (sub s.C n.path).head?)
def BelowEnd (rs : List Nat) (St : RS → Bool → World → Prop) (s : RS) (g : Bool) (nb : Nat) (path : Str) (i : Nat) (X : Nat) (w : World) (e : Ending) (w' : World) : Prop :=
  ∃ s' g' f, e = .returned (fV f) ∧ St s' g' w' ∧ RStep rs w w' s s' ∧ s'.k ≤ X ∧
    (s'.d = s.d → g = false → ∀ x, x ∈ s.F → x.2.nb = nb → x.2.path = bl path → g' = false ∧ f = (belowC s.C x.2.path x.2.kids i).head?)
theorem heap_two (w : World) (o o' : Obj) : ((w.alloc o).alloc o').heap[w.heap.size]? = some o ∧ ((w.alloc o).alloc o').heap[w.heap.size + 1]? = some o' := by
  refine ⟨heap_alloc_old _ (heap_alloc_new _ _), ?_⟩
  have := heap_alloc_new (w.alloc o) o'
  simpa using this
theorem below_two (w : World) (o o' : Obj) : Below w.heap.size w ((w.alloc o).alloc o') := ((Below.refl _ _).alloc (Nat.le_refl _) _).alloc (by simp) _
/-- A found's box is written. -/
theorem found_stored {q : Nat} {a b c : Value} (h : w.heap[q]? = some (.cells #[a, b, c] 121)) (x y z : Value) :
    (((w.setCell ⟨q, 0, none⟩ x).setCell ⟨q, 1, none⟩ y).setCell ⟨q, 2, none⟩ z).heap[q]? = some (.cells #[x, y, z] 121) ∧
    Upd [q] w (((w.setCell ⟨q, 0, none⟩ x).setCell ⟨q, 1, none⟩ y).setCell ⟨q, 2, none⟩ z) := by
  have h0 : (w.setCell ⟨q, 0, none⟩ x).heap[q]? = some (.cells #[x, b, c] 121) := heap_set_same h 0 _
  have h1 : ((w.setCell ⟨q, 0, none⟩ x).setCell ⟨q, 1, none⟩ y).heap[q]? = some (.cells #[x, y, c] 121) := heap_set_same h0 1 _
  refine ⟨heap_set_same h1 2 _, ?_⟩
  iterate 3 refine Upd.setCell ?_ (by simp) _
  exact Upd.refl _ _
theorem cells3 {q : Nat} {a b c : Value} {t : TypeId} (h : w.heap[q]? = some (.cells #[a, b, c] t)) : w.cell? ⟨q, 0, none⟩ = some a ∧ w.cell? ⟨q, 1, none⟩ = some b ∧ w.cell? ⟨q, 2, none⟩ = some c ∧ q < w.heap.size ∧ ∀ i, w.frozen? ⟨q, i, none⟩ = false := by
  refine ⟨?_, ?_, ?_, heap_lt h, fun i => frozen_of_heap h i⟩ <;> rw [cell_of_heap h] <;> rfl
theorem cells4 {q : Nat} {a b c d : Value} {t : TypeId} (h : w.heap[q]? = some (.cells #[a, b, c, d] t)) : w.cell? ⟨q, 0, none⟩ = some a ∧ w.cell? ⟨q, 1, none⟩ = some b ∧ w.cell? ⟨q, 2, none⟩ = some c ∧ w.cell? ⟨q, 3, none⟩ = some d ∧ q < w.heap.size ∧ ∀ i, w.frozen? ⟨q, i, none⟩ = false := by
  refine ⟨?_, ?_, ?_, ?_, heap_lt h, fun i => frozen_of_heap h i⟩ <;> rw [cell_of_heap h] <;> rfl
theorem cells2 {q : Nat} {a b : Value} {t : TypeId} (h : w.heap[q]? = some (.cells #[a, b] t)) : w.cell? ⟨q, 0, none⟩ = some a ∧ w.cell? ⟨q, 1, none⟩ = some b ∧ q < w.heap.size ∧ ∀ i, w.frozen? ⟨q, i, none⟩ = false := by
  refine ⟨?_, ?_, heap_lt h, fun i => frozen_of_heap h i⟩ <;> rw [cell_of_heap h] <;> rfl
/-- The result's box is written, at the end. -/
theorem Rdr.fin {w2 : World} {q : Nat} {a b c : Value} {g1 : Bool} (R : Rdr w0 r wk rs St) (hS0 : St s g w) (hst2 : RStep rs w w2 s s1) (hS2 : St s1 g1 w2) (hq : w.heap.size ≤ q) (hr : s1.ρ q = 0) (h : w2.heap[q]? = some (.cells #[a, b, c] 121)) (x y z : Value) :
    (((w2.setCell ⟨q, 0, none⟩ x).setCell ⟨q, 1, none⟩ y).setCell ⟨q, 2, none⟩ z).heap[q]? = some (.cells #[x, y, z] 121) ∧ St s1 g1 (((w2.setCell ⟨q, 0, none⟩ x).setCell ⟨q, 1, none⟩ y).setCell ⟨q, 2, none⟩ z) ∧ RStep rs w (((w2.setCell ⟨q, 0, none⟩ x).setCell ⟨q, 1, none⟩ y).setCell ⟨q, 2, none⟩ z) s s1 := by
  obtain ⟨q1, q2⟩ := found_stored h x y z
  have h0 := (R.ro _ _ _ hS0).bel.size
  exact ⟨q1, R.wr _ _ _ _ [q] hS2 q2 (by simp; exact ⟨by omega, hr⟩), hst2.own q2 (by simp; exact hq) R hS2⟩
theorem AOK.pre_le {F : AF} (h : AOK F r) {x : Hd × AN} (hx : x ∈ F) : x.2.pre.size ≤ x.2.path.length := by
  rw [← bl_size]
  by_cases hr : x.1 = r
  · rw [(h.root_pre hx hr).1]; exact Nat.zero_le _
  · obtain ⟨p, _, b, _, hp⟩ := h.base hx hr
    rw [hp]; simp; omega
theorem bl_s0 : bl s0 = [] := rfl
def big : Nat := 1125899906842624
set_option maxRecDepth 100000 in
theorem least_step (R : Rdr w0 r wk rs St) (hS : St s g w) (h : Hd) (path : Str) (hz : path.size ≤ big) (X : Nat) (hX1 : s.k + 1 ≤ X) (hXK : X ≤ KM)
    (hB : ∀ s1 g1 w1 n, RStep rs w w1 s s1 → (s.m = 0 ∨ s1.m + 1 = s.m) → s1.k ≤ s.k + 1 → (h, n) ∈ s1.F → St s1 g1 w1 → Calls Tryz.prog 76 #[.pointer (some ⟨wk, 0, none⟩), nV n, .string (path ++ n.pre), .int .i64 0] w1 (BelowEnd rs St s1 g1 n.nb (path ++ n.pre) 0 X w1)) :
    Calls Tryz.prog 82 #[.pointer (some ⟨wk, 0, none⟩), hV h, .string path] w (LeastEnd rs St s g h path X w) := by
  replace hB := Lib.hid hB
  go_enter Tryz.func82, Tryz.ntmps82
  go_upto_region 1 with fail
  obtain ⟨hbx, hby⟩ := heap_two w (.cells #[.int .i64 h.1, .int .u64 h.2] 77) (.cells #[.string ⟨#[]⟩, .string ⟨#[]⟩, .bool false] 121)
  have hBe := below_two w (.cells #[.int .i64 h.1, .int .u64 h.2] 77) (.cells #[.string ⟨#[]⟩, .string ⟨#[]⟩, .bool false] 121)
  generalize (w.alloc (.cells #[.int .i64 h.1, .int .u64 h.2] 77)).alloc (.cells #[.string ⟨#[]⟩, .string ⟨#[]⟩, .bool false] 121) = W0 at *
  obtain ⟨k0, k1, kq, _⟩ := cells2 hbx
  have hS0 := R.bel hS hBe
  have hN := R.node s g W0 h hS0 (Nat.le_trans hX1 hXK)
  have hq0 : s.ρ (w.heap.size + 1) = 0 := (R.ro _ _ _ hS).far _ (by omega)
  replace hBe := Lib.hid hBe
  replace hby := Lib.hid hby
  replace hS := Lib.hid hS
  replace hS0 := Lib.hid hS0
  replace hq0 := Lib.hid hq0
  clear hbx
  go_wp2_with fail
  refine hN.mono ?_
  clear hN
  rintro e w1 ⟨s1, hst, ⟨hm, hk0⟩, hor⟩
  have hk1 := Nat.le_of_eq hk0
  clear hk0
  rcases hor with ⟨n, hn, rfl, hS1⟩ | ⟨hn, rfl, hS1⟩
  · obtain ⟨ok1, ct1, _, lim1, _⟩ := R.ok _ _ _ hS1
    have hps : n.pre.size ≤ 600 := Nat.le_trans (ok1.pre_le hn) (lim1 _ hn)
    have hle := art_least ok1 ct1 hn
    have hy1 := hst.ru.heap hby.out (by rw [hq0.out]; exact R.h0)
    have hr1 : s1.ρ (w.heap.size + 1) = 0 := (hst.ru.role _ (heap_lt hby.out)).trans hq0.out
    have hcl := cells4 (heap_alloc_new w1 (.cells #[.string n.pre, .string (n.val.getD s0), .bool n.val.isSome, .pointer (some ⟨n.nb, 0, none⟩)] 75))
    have hy2 := heap_alloc_old (.cells #[.string n.pre, .string (n.val.getD s0), .bool n.val.isSome, .pointer (some ⟨n.nb, 0, none⟩)] 75) hy1
    have hb2 : Below w1.heap.size w1 (w1.alloc (.cells #[.string n.pre, .string (n.val.getD s0), .bool n.val.isSome, .pointer (some ⟨n.nb, 0, none⟩)] 75)) := (Below.refl _ _).alloc (Nat.le_refl _) _
    have hS2 := R.bel hS1 hb2
    have hB2 := hB.out s1 g _ n ((hst.trans (R.stepB hS1 hb2)).bel R hS.out hBe.out) hm hk1 hn hS2
    have hst2 := (hst.trans (R.stepB hS1 hb2)).bel R hS.out hBe.out
    have hno : ¬ 9223372036854775807 < path.size + n.pre.size := by unfold big at hz; omega
    unfold nV at hB2 ⊢
    obtain ⟨pp, pre, val, kids, nb⟩ := n
    simp only at hcl hy2 hb2 hS2 hB2 hst2 hno hps hle ⊢
    clear hps
    replace hle := Lib.hid hle
    replace hB2 := Lib.hid hB2
    go_upto_region 2 with fail
    generalize w1.alloc (.cells #[.string pre, .string (val.getD s0), .bool val.isSome, .pointer (some ⟨nb, 0, none⟩)] 75) = w2 at *
    replace hst := Lib.hid hst
    replace hm := Lib.hid hm
    replace hS1 := Lib.hid hS1
    replace hS2 := Lib.hid hS2
    replace hst2 := Lib.hid hst2
    replace hb2 := Lib.hid hb2
    replace hr1 := Lib.hid hr1
    obtain ⟨z0, z1, z2, z3, zq, zf⟩ := hcl
    obtain ⟨y0, y1, y2, yq, yf⟩ := cells3 hy2
    replace hy2 := Lib.hid hy2
    clear hy1 ok1 ct1 lim1
    replace hB2 := hB2.out
    cases val with
    | some v =>
      obtain ⟨q1, q2, q3⟩ := R.fin hS.out hst2.out hS2.out (Nat.le_succ _) hr1.out hy2.out (.string (path ++ pre)) (.string v) (.bool true)
      obtain ⟨c0, c1, c2, _, _⟩ := cells3 q1
      replace q2 := Lib.hid q2
      replace q3 := Lib.hid q3
      clear q1
      go_wp2_with fail
      refine bodyPost_ret (v := .agg #[.string (path ++ pre), .string v, .bool true]) (by simp [results, Tryz.results82, go_sem, c0, c1, c2]) rfl ⟨s1, g, some (path ++ pre, v), rfl, q2.out, q3.out, ⟨hm.out.imp_right (fun h => by omega), Nat.le_trans hk1 hX1⟩, fun hd hg m hmem hp => ?_⟩
      obtain ⟨e1, e2, _⟩ := hst.out.same hd
      rw [e1] at hn
      have := nodup_inj (R.ok _ _ _ hS.out).1.nd hmem hn rfl
      injection this with _ this
      subst this
      simp only at hp
      rw [← e2, hle.out]
      exact ⟨hg, by rw [hp, ← bl_app, bs_bl]⟩
    | none =>
      go_wp2_with fail
      refine hB2.mono ?_
      clear hB2
      rintro e w3 ⟨s3, g3, f, rfl, hS3, hst3, hk3, hex⟩
      have hy3 := hst3.ru.heap hy2.out (by rw [hr1.out]; exact R.h0)
      obtain ⟨q1, q2, q3⟩ := R.fin hS.out (hst2.out.trans hst3) hS3 (Nat.le_succ _) ((hst3.ru.role _ (heap_lt hy2.out)).trans hr1.out) hy3 (.string (fK f)) (.string (fX f)) (.bool f.isSome)
      obtain ⟨c0, c1, c2, _, _⟩ := cells3 q1
      obtain ⟨u0, u1, u2, uq, uf⟩ := cells3 hy3
      replace q2 := Lib.hid q2
      replace q3 := Lib.hid q3
      replace hex := Lib.hid hex
      replace hst3 := Lib.hid hst3
      replace hS3 := Lib.hid hS3
      clear q1 hy3
      unfold fV
      go_wp2_with fail
      have hm3 := hst3.out.m
      refine bodyPost_ret (v := .agg #[.string (fK f), .string (fX f), .bool f.isSome]) (by simp [results, Tryz.results82, go_sem, c0, c1, c2]) rfl ⟨s3, g3, f, rfl, q2.out, q3.out, ⟨hm.out.imp_right (fun h => by omega), hk3⟩, fun hd hg m hmem hp => ?_⟩
      have hd1 := hst.out.d
      have hd3 := hst3.out.d
      obtain ⟨e1, e2, _⟩ := hst.out.same (by omega)
      have hmm := hn
      rw [e1] at hmm
      have := nodup_inj (R.ok _ _ _ hS.out).1.nd hmem hmm rfl
      injection this with _ this
      subst this
      simp only at hp
      obtain ⟨x1, x2⟩ := hex.out (by omega) hg _ hn rfl (by rw [bl_app]; exact hp)
      refine ⟨x1, ?_⟩
      rw [x2, ← e2, hle.out, belowC_zero]
  · have hy1 := hst.ru.heap hby.out (by rw [hq0.out]; exact R.h0)
    have hy2 := heap_alloc_old (.cells #[.string ⟨#[]⟩, .string ⟨#[]⟩, .bool false, .pointer none] 75) hy1
    have hb2 : Below w1.heap.size w1 (w1.alloc (.cells #[.string ⟨#[]⟩, .string ⟨#[]⟩, .bool false, .pointer none] 75)) := (Below.refl _ _).alloc (Nat.le_refl _) _
    have hS2 := R.bel hS1 hb2
    have hst2 := (hst.trans (R.stepB hS1 hb2)).bel R hS.out hBe.out
    have hr1 : s1.ρ (w.heap.size + 1) = 0 := (hst.ru.role _ (heap_lt hby.out)).trans hq0.out
    go_upto_region 2 with fail
    generalize w1.alloc (.cells #[.string ⟨#[]⟩, .string ⟨#[]⟩, .bool false, .pointer none] 75) = w2 at *
    replace hr1 := Lib.hid hr1
    replace hb2 := Lib.hid hb2
    replace hS1 := Lib.hid hS1
    replace hS2 := Lib.hid hS2
    replace hst2 := Lib.hid hst2
    replace hst := Lib.hid hst
    replace hm := Lib.hid hm
    obtain ⟨y0, y1, y2, yq, yf⟩ := cells3 hy2
    replace hy2 := Lib.hid hy2
    obtain ⟨q1, q2, q3⟩ := R.fin hS.out hst2.out hS2.out (Nat.le_succ _) hr1.out hy2.out (.string ⟨#[]⟩) (.string ⟨#[]⟩) (.bool false)
    obtain ⟨c0, c1, c2, _, _⟩ := cells3 q1
    replace q2 := Lib.hid q2
    replace q3 := Lib.hid q3
    clear q1
    go_wp2_with fail
    refine bodyPost_ret (v := .agg #[.string ⟨#[]⟩, .string ⟨#[]⟩, .bool false]) (by simp [results, Tryz.results82, go_sem, c0, c1, c2]) rfl ⟨s1, true, none, rfl, q2.out, q3.out, ⟨hm.out.imp_right (fun h => by omega), Nat.le_trans hk1 hX1⟩, fun hd hg m hmem hp => ?_⟩
    obtain ⟨e1, _, _⟩ := hst.out.same hd
    exact absurd rfl (hn _ (by rw [e1]; exact hmem))
end
end Go.Proofs.YtmhlokomlngdmaaGreat
namespace Go.Proofs.YtmhlokomlngdmaaGreat
open Go.RowKit
section
variable {w0 w w' : World} {r : Hd} {wk : Nat} {rs : List Nat} {St : RS → Bool → World → Prop} {s s1 s2 : RS} {g : Bool}
theorem hd_stored {q : Nat} {a b : Value} (h : w.heap[q]? = some (.cells #[a, b] 77)) (x y : Value) :
    ((w.setCell ⟨q, 0, none⟩ x).setCell ⟨q, 1, none⟩ y).heap[q]? = some (.cells #[x, y] 77) ∧ Upd [q] w ((w.setCell ⟨q, 0, none⟩ x).setCell ⟨q, 1, none⟩ y) := by
  have h0 : (w.setCell ⟨q, 0, none⟩ x).heap[q]? = some (.cells #[x, b] 77) := heap_set_same h 0 _
  refine ⟨heap_set_same h0 1 _, ?_⟩
  iterate 2 refine Upd.setCell ?_ (by simp) _
  exact Upd.refl _ _
/-- A box of the walker's own. -/
structure Box (w0 : World) (s : RS) (w : World) (q : Nat) (o : Obj) : Prop where
  old : w0.heap.size ≤ q
  cel : w.heap[q]? = some o
  rol : s.ρ q = 0
theorem Box.step {wb : World} {q : Nat} {o : Obj} (h : Box wb s w q o) (h0 : 0 ∉ rs) (k : RStep rs w w' s s1) : Box wb s1 w' q o :=
  ⟨h.old, k.ru.heap h.cel (by rw [h.rol]; exact h0), (k.ru.role _ (heap_lt h.cel)).trans h.rol⟩
theorem Box.bel {wb : World} {q : Nat} {o : Obj} (h : Box wb s w q o) (hb : Below w.heap.size w w') : Box wb s w' q o := ⟨h.old, Below.heap' hb h.cel, h.rol⟩
theorem Box.upd {wb : World} {q : Nat} {o : Obj} {S : List Nat} (h : Box wb s w q o) (hu : Upd S w w') (hq : q ∉ S) : Box wb s w' q o := ⟨h.old, hu.heap h.cel hq, h.rol⟩
theorem Box.new {wb : World} (o : Obj) (hw : wb.heap.size ≤ w.heap.size) (hro : Ro w0 w s.ρ) : Box wb s (w.alloc o) w.heap.size o := ⟨hw, heap_alloc_new _ _, hro.far _ (Nat.le_refl _)⟩
def oB (o : Option (UInt8 × Hd)) : Int := match o with | some y => y.1.toNat | none => 0
def oH (o : Option (UInt8 × Hd)) : Hd := match o with | some y => y.2 | none => (0, 0)
theorem fromV_o (o : Option (UInt8 × Hd)) : fromV o = .tuple #[.int .u8 (oB o), hV (oH o), .bool o.isSome] := by cases o <;> rfl
theorem bel_kid {F : AF} {C : Cont} (h : AOK F r) (hc : ACt F C) {x : Hd × AN} (hx : x ∈ F) {i1 : Nat} {b : UInt8} {c : Hd} (hk : kfrom x.2.kids i1 = some (b, c)) :
    ∃ m, (c, m) ∈ F ∧ m.path = x.2.path ++ b :: bl m.pre ∧ belowC C x.2.path x.2.kids i1 = sub C m.path ++ belowC C x.2.path x.2.kids (b.toNat + 1) := by
  obtain ⟨h1, _, _⟩ := kfrom_some (h.srt x hx) hk
  obtain ⟨m, hm, hp⟩ := h.dn x hx _ h1
  exact ⟨m, hm, hp, by rw [belowC_some (h.srt x hx) hk, ← sub_kid h hc hx h1 hm]⟩
structure BInv (w0 : World) (rs : List Nat) (St : RS → Bool → World → Prop) (I : RS → Nat → Prop) (s : RS) (g : Bool) (w : World) (nb : Nat) (path : Str) (i : Nat) (o : Obj) (wr : World) (s1 : RS) (g1 : Bool) (i1 HB : Nat) (L1 : KL) : Prop where
  st : RStep rs w wr s s1
  hS : St s1 g1 wr
  kn : s1.K nb = some L1
  le : i1 ≤ 256
  hb : Box w s1 wr HB (.cells #[.int .i64 (oH (kfrom L1 i1)).1, .int .u64 (oH (kfrom L1 i1)).2] 77)
  nbx : Box w s1 wr w.heap.size o
  fb : Box w s1 wr (w.heap.size + 1) (.cells #[.string ⟨#[]⟩, .string ⟨#[]⟩, .bool false] 121)
  ne : w.heap.size + 1 < HB
  ex : s1.d = s.d → g = false → ∀ x, x ∈ s.F → x.2.nb = nb → x.2.path = bl path → g1 = false ∧ (belowC s.C x.2.path x.2.kids i).head? = (belowC s.C x.2.path x.2.kids i1).head?
  iv : I s1 i1
set_option maxRecDepth 100000 in
set_option maxHeartbeats 1000000 in
theorem below_step (R : Rdr w0 r wk rs St) (hS : St s g w) (n : AN) {L : KL} (hnb : s.K n.nb = some L) (path : Str) (hz : path.size + 1 ≤ big) (i : Nat) (hi : i ≤ 256) (X : Nat) (I : RS → Nat → Prop) (hI0 : I s i) (hIX : ∀ s1 i1, i1 ≤ 256 → I s1 i1 → s1.k ≤ X)
    (hL : ∀ s1 g1 w1 b c L1 i1, RStep rs w w1 s s1 → St s1 g1 w1 → s1.K n.nb = some L1 → (b, c) ∈ L1 → kfrom L1 i1 = some (b, c) → i1 ≤ 256 → I s1 i1 → ∃ X', (∀ w3 s3, RStep rs w1 w3 s1 s3 → s3.k ≤ X' → I s3 (b.toNat + 1)) ∧ Calls Tryz.prog 82 #[.pointer (some ⟨wk, 0, none⟩), hV c, .string (path ++ bs [b])] w1 (LeastEnd rs St s1 g1 c (path ++ bs [b]) X' w1)) :
    Calls Tryz.prog 76 #[.pointer (some ⟨wk, 0, none⟩), nV n, .string path, .int .i64 i] w (BelowEnd rs St s g n.nb path i X w) := by
  replace hL := Lib.hid hL
  unfold nV
  obtain ⟨pp, pre, val, kids, nb⟩ := n
  simp only at hnb hL ⊢
  have hro := R.ro _ _ _ hS
  go_enter Tryz.func76, Tryz.ntmps76
  go_upto_region 1 with fail
  have hb1 := Box.new (s := s) (w := w) (wb := w) (.cells #[.string pre, .string (val.getD s0), .bool val.isSome, .pointer (some ⟨nb, 0, none⟩)] 75) (Nat.le_refl _) hro
  have hBx : Below w.heap.size w (w.alloc (.cells #[.string pre, .string (val.getD s0), .bool val.isSome, .pointer (some ⟨nb, 0, none⟩)] 75)) := (Below.refl _ _).alloc (Nat.le_refl _) _
  have hb2 := Box.new (s := s) (w := w.alloc (.cells #[.string pre, .string (val.getD s0), .bool val.isSome, .pointer (some ⟨nb, 0, none⟩)] 75)) (wb := w) (.cells #[.string ⟨#[]⟩, .string ⟨#[]⟩, .bool false] 121) hBx.size (R.ro _ _ _ (R.bel hS hBx))
  have hb1 := hb1.bel (w' := (w.alloc (.cells #[.string pre, .string (val.getD s0), .bool val.isSome, .pointer (some ⟨nb, 0, none⟩)] 75)).alloc (.cells #[.string ⟨#[]⟩, .string ⟨#[]⟩, .bool false] 121)) ((Below.refl _ _).alloc (Nat.le_refl _) _)
  have hBe := below_two w (.cells #[.string pre, .string (val.getD s0), .bool val.isSome, .pointer (some ⟨nb, 0, none⟩)] 75) (.cells #[.string ⟨#[]⟩, .string ⟨#[]⟩, .bool false] 121)
  rw [show (w.alloc (.cells #[.string pre, .string (val.getD s0), .bool val.isSome, .pointer (some ⟨nb, 0, none⟩)] 75)).heap.size = w.heap.size + 1 by simp] at hb2
  generalize (w.alloc (.cells #[.string pre, .string (val.getD s0), .bool val.isSome, .pointer (some ⟨nb, 0, none⟩)] 75)).alloc (.cells #[.string ⟨#[]⟩, .string ⟨#[]⟩, .bool false] 121) = W0 at *
  clear hBx
  have hS0 := R.bel hS hBe
  obtain ⟨B, hB⟩ := R.kids _ _ _ _ _ hS0 hnb
  have hF := anFrom_any hB i hi
  obtain ⟨z0, z1, z2, z3, zq, zf⟩ := cells4 hb1.cel
  have hst0 := R.stepB hS hBe
  replace hst0 := Lib.hid hst0
  replace hBe := Lib.hid hBe
  replace hb1 := Lib.hid hb1
  replace hb2 := Lib.hid hb2
  replace hS := Lib.hid hS
  replace hS0 := Lib.hid hS0
  clear hB hro
  obtain ⟨vb, hvb⟩ : ∃ vb, vb = oB (kfrom L i) := ⟨_, rfl⟩
  obtain ⟨vh, hvh⟩ : ∃ vh, vh = oH (kfrom L i) := ⟨_, rfl⟩
  obtain ⟨vf, hvf⟩ : ∃ vf, vf = (kfrom L i).isSome := ⟨_, rfl⟩
  rw [fromV_o, ← hvb, ← hvh, ← hvf] at hF
  replace hvb := Lib.hid hvb
  replace hvh := Lib.hid hvh
  replace hvf := Lib.hid hvf
  go_wp2_with fail
  refine hF.mono ?_
  clear hF
  rintro e w1 ⟨rfl, hbe1⟩
  go_upto_region 2 with fail
  have hA : Below w1.heap.size w1 (w1.alloc (.cells #[.int .i64 vh.1, .int .u64 vh.2] 77)) := (Below.refl _ _).alloc (Nat.le_refl _) _
  have hbe2 := hbe1.trans (hA.mono hbe1.size)
  have hS1 := R.bel hS0.out hbe1
  have hinv : BInv w0 rs St I s g w nb path i (.cells #[.string pre, .string (val.getD s0), .bool val.isSome, .pointer (some ⟨nb, 0, none⟩)] 75) (w1.alloc (.cells #[.int .i64 vh.1, .int .u64 vh.2] 77)) s g i w1.heap.size L :=
    ⟨hst0.out.trans (R.stepB hS0.out hbe2), R.bel hS0.out hbe2, hnb, hi, (by rw [← hvh.out]; exact Box.new (w0 := w0) _ (Nat.le_trans hBe.out.size hbe1.size) (R.ro _ _ _ hS1)), hb1.out.bel hbe2, hb2.out.bel hbe2, by have := heap_lt hb2.out.cel; have := hbe1.size; omega, fun _ hg x _ _ _ => ⟨hg, rfl⟩, hI0⟩
  replace hinv := Lib.hid hinv
  generalize hw2 : w1.alloc (.cells #[.int .i64 vh.1, .int .u64 vh.2] 77) = w2 at *
  replace hw2 := Lib.hid hw2
  replace hbe1 := Lib.hid hbe1
  clear hb1 hb2 hst0 hS1 hbe2 hA z0 z1 z2 z3 zq zf hS0 hBe
  go_loopg [9, 10, 11] (257 - i) (fun gk v9 v10 v11 wr => ∃ (s1 : RS) (g1 : Bool) (i1 HB : Nat) (L1 : KL), gk = 257 - i1 ∧ v9 = .int .u8 (oB (kfrom L1 i1)) ∧ v10 = .pointer (some ⟨HB, 0, none⟩) ∧ v11 = .bool (kfrom L1 i1).isSome ∧ BInv w0 rs St I s g w nb path i (.cells #[.string pre, .string (val.getD s0), .bool val.isSome, .pointer (some ⟨nb, 0, none⟩)] 75) wr s1 g1 i1 HB L1)
  case atStart => exact ⟨s, g, i, w1.heap.size, L, rfl, by rw [hvb.out], rfl, by rw [hvf.out], hinv.out⟩
  case round =>
    clear hinv hw2 hvb hvh hvf
    obtain ⟨s1, g1, i1, HB, L1, rfl, rfl, rfl, rfl, hI⟩ := hrel
    obtain ⟨h0, h1, hq, hf⟩ := cells2 hI.hb.cel
    obtain ⟨z0, z1, z2, z3, zq, zf⟩ := cells4 hI.nbx.cel
    obtain ⟨y0, y1, y2, yq, yf⟩ := cells3 hI.fb.cel
    replace hI := Lib.hid hI
    cases hk : kfrom L1 i1 with
    | none =>
      rw [hk] at h0 h1
      replace hk := Lib.hid hk
      obtain ⟨q1, q2, q3⟩ := R.fin hS.out hI.out.st hI.out.hS (Nat.le_succ _) hI.out.fb.rol hI.out.fb.cel (.string ⟨#[]⟩) (.string ⟨#[]⟩) (.bool false)
      obtain ⟨c0, c1, c2, _, _⟩ := cells3 q1
      replace q2 := Lib.hid q2
      replace q3 := Lib.hid q3
      clear q1
      go_wp2_with fail
      refine bodyPost_ret (v := .agg #[.string ⟨#[]⟩, .string ⟨#[]⟩, .bool false]) (by simp [results, Tryz.results76, go_sem, c0, c1, c2]) rfl ⟨s1, g1, none, rfl, q2.out, q3.out, hIX s1 i1 hI.out.le hI.out.iv, fun hd hg x hx e1 e2 => ?_⟩
      obtain ⟨a1, a2⟩ := hI.out.ex hd hg x hx e1 e2
      refine ⟨a1, ?_⟩
      have hkx : x.2.kids = L1 := by
        have := (R.ok _ _ _ hS.out).2.2.1 x hx
        rw [e1, ← (hI.out.st.same hd).2.2, hI.out.kn] at this
        injection this with this
        exact this.symm
      rw [a2, hkx, belowC_none hk.out]
      rfl
    | some y =>
      obtain ⟨b, c⟩ := y
      rw [hk] at h0 h1
      have ok1 := R.ok _ _ _ hI.out.hS
      replace hk := Lib.hid hk
      simp only [oH, oB, Option.isSome_some] at h0 h1 ⊢
      clear ok1
      obtain ⟨sb, hsb⟩ : ∃ sb, sb = bs [b] := ⟨_, rfl⟩
      have hno : ¬ 9223372036854775807 < path.size + sb.size := by
        have : sb.size = 1 := by rw [hsb]; rfl
        unfold big at hz; omega
      have hcv : (convert 98 9 (.slice (some ⟨wr.heap.size, 0, none⟩) 1 1)).run Tryz.prog (wr.alloc (.cells #[.int .u8 b.toNat] 5)) = .ok (.string sb) (wr.alloc (.cells #[.int .u8 b.toNat] 5)) := by
        rw [hsb]
        exact run_convert_bytes_back (wr.alloc (.cells #[.int .u8 b.toNat] 5)) 98 9 5 ⟨wr.heap.size, 0, none⟩ 1 [b] Tryz.underlying98 Tryz.underlying5 Tryz.underlying9 (fun j hj => by
          have : j = 0 := by simpa using hj
          subst this
          rw [show (Addr.add ⟨wr.heap.size, 0, none⟩ 0) = (⟨wr.heap.size, 0, none⟩ : Addr) from rfl, cell_of_heap (heap_alloc_new _ _)]
          rfl)
      replace hsb := Lib.hid hsb
      have hAl : Below wr.heap.size wr (wr.alloc (.cells #[.int .u8 b.toNat] 5)) := (Below.refl _ _).alloc (Nat.le_refl _) _
      have hSA := R.bel hI.out.hS hAl
      have hstA := hI.out.st.trans (R.stepB hI.out.hS hAl)
      obtain ⟨B1, hB1⟩ := R.kids _ _ _ _ _ hI.out.hS hI.out.kn
      obtain ⟨hmem, hle1, _⟩ := kfrom_some hB1.ks hk.out
      replace hB1 := Lib.hid hB1
      obtain ⟨X', hCI, hC⟩ := hL.out s1 g1 _ b c L1 i1 hstA hSA hI.out.kn hmem hk.out hI.out.le hI.out.iv
      rw [← hsb.out] at hC
      replace hC := Lib.hid hC
      replace hCI := Lib.hid hCI
      go_wp2_with fail
      refine hC.out.mono ?_
      rintro e w3 ⟨s2, g2, f, rfl, hS3, hst3, ⟨hm3, hk3⟩, hex⟩
      have hI2 := Lib.hid (hCI.out _ _ hst3 hk3)
      have hk2X := Lib.hid (hIX s2 (b.toNat + 1) (by have := b.toNat_lt; omega) hI2.out)
      unfold fV
      go_upto_region 5 with fail
      have hexA : s2.d = s.d → g = false → ∀ x, x ∈ s.F → x.2.nb = nb → x.2.path = bl path → g2 = false ∧ (belowC s.C x.2.path x.2.kids i).head? = f.or (belowC s.C x.2.path x.2.kids (b.toNat + 1)).head? := fun hd hg x hx e1 e2 => by
        have d1 := hstA.d
        have d2 := hst3.d
        obtain ⟨f1, f2, f3⟩ := hI.out.st.same (by omega)
        obtain ⟨a1, a2⟩ := hI.out.ex (by omega) hg x hx e1 e2
        obtain ⟨okA, okB, okC, _⟩ := R.ok _ _ _ hS.out
        have hkx : x.2.kids = L1 := by
          have := okC x hx
          rw [e1, ← f3, hI.out.kn] at this
          injection this with this
          exact this.symm
        have hkk := hk.out
        rw [← hkx] at hkk
        obtain ⟨m, m1, m2, m3⟩ := bel_kid okA okB hx hkk
        obtain ⟨x1, x2⟩ := hex (by omega) a1 m (by rw [f1]; exact m1) (by rw [m2, e2, bl_app, hsb.out, List.append_assoc]; rfl)
        refine ⟨x1, ?_⟩
        rw [a2, m3, List.head?_append, x2, f2]
      have hA3 : Below w3.heap.size w3 (w3.alloc (.cells #[.string (fK f), .string (fX f), .bool f.isSome] 121)) := (Below.refl _ _).alloc (Nat.le_refl _) _
      have hF3 := heap_alloc_new w3 (.cells #[.string (fK f), .string (fX f), .bool f.isSome] 121)
      have hS4 := R.bel hS3 hA3
      have hst4 := (hstA.trans hst3).trans (R.stepB hS3 hA3)
      have hfb := ((hI.out.fb.bel hAl).step R.h0 hst3).bel hA3
      have hnb4 := ((hI.out.nbx.bel hAl).step R.h0 hst3).bel hA3
      have hhb4 := ((hI.out.hb.bel hAl).step R.h0 hst3).bel hA3
      rw [hk.out] at hhb4
      have hag := (R.again _ _ _ hS4).1
      have hwk := (R.again _ _ _ hS4).2
      have hK4 := hst4.kd nb (by rw [hnb]; rfl)
      generalize w3.alloc (.cells #[.string (fK f), .string (fX f), .bool f.isSome] 121) = w4 at *
      obtain ⟨f0, f1, f2, fq, ff⟩ := cells3 hF3
      obtain ⟨a0, a1, a2, aq, af⟩ := cells3 hfb.cel
      obtain ⟨n0, n1, n2, n3, nq, nf⟩ := cells4 hnb4.cel
      obtain ⟨b0, b1, bq, bf⟩ := cells2 hhb4.cel
      simp only [oH] at b0 b1
      clear h0 h1 hq hf z0 z1 z2 z3 zq zf y0 y1 y2 yq yf hcv hAl hSA hstA hC hex hst3 hm3 hk3 hCI hF3 hS3 hA3
      replace hS4 := Lib.hid hS4
      replace hst4 := Lib.hid hst4
      replace hfb := Lib.hid hfb
      replace hnb4 := Lib.hid hnb4
      replace hhb4 := Lib.hid hhb4
      replace hexA := Lib.hid hexA
      replace hK4 := Lib.hid hK4
      by_cases hret : f.isSome = true ∨ g2 = true
      · obtain ⟨q1, q2, q3⟩ := R.fin hS.out hst4.out hS4.out (Nat.le_succ _) hfb.out.rol hfb.out.cel (.string (fK f)) (.string (fX f)) (.bool f.isSome)
        obtain ⟨c0, c1, c2, _, _⟩ := cells3 q1
        replace q2 := Lib.hid q2
        replace q3 := Lib.hid q3
        clear q1
        have hfin : Hid (s2.d = s.d → g = false → ∀ x, x ∈ s.F → x.2.nb = nb → x.2.path = bl path → g2 = false ∧ f = (belowC s.C x.2.path x.2.kids i).head?) := Lib.hid fun hd hg x hx e1 e2 => by
          obtain ⟨x1, x2⟩ := hexA.out hd hg x hx e1 e2
          refine ⟨x1, ?_⟩
          rw [x2]
          cases f with
          | some y => rfl
          | none => rw [x1] at hret; simp at hret
        have hor : (f.isSome || g2) = true := by simpa using hret
        clear hret hexA
        generalize hfs : f.isSome = fs at *
        replace hfs := Lib.hid hfs
        cases fs with
        | true =>
          go_wp2_with fail
          refine bodyPost_ret (v := .agg #[.string (fK f), .string (fX f), .bool true]) (by simp [results, Tryz.results76, go_sem, c0, c1, c2]) rfl ⟨s2, g2, f, by unfold fV; rw [hfs.out], q2.out, q3.out, hk2X.out, hfin.out⟩
        | false =>
          have hg2 : g2 = true := by simpa using hor
          subst hg2
          go_wp2_with fail
          refine bodyPost_ret (v := .agg #[.string (fK f), .string (fX f), .bool false]) (by simp [results, Tryz.results76, go_sem, c0, c1, c2]) rfl ⟨s2, true, f, by unfold fV; rw [hfs.out], q2.out, q3.out, hk2X.out, hfin.out⟩
      · have hg2 : g2 = false := by cases g2 with | true => simp at hret | false => rfl
        subst hg2
        have hf0 : f = none := by cases f with | some y => simp at hret | none => rfl
        subst hf0
        clear hret
        simp only [Option.isSome_none] at f2
        obtain ⟨L2, hL2⟩ := Option.isSome_iff_exists.1 hK4.out
        have hb256 : b.toNat < 256 := b.toNat_lt
        go_upto_region 3 with fail
        have hA5 : Below w4.heap.size w4 (w4.alloc (.cells #[.int .i64 c.1, .int .u64 c.2] 77)) := (Below.refl _ _).alloc (Nat.le_refl _) _
        have hb5 := Box.new (w0 := w0) (s := s2) (w := w4) (wb := w) (.cells #[.int .i64 c.1, .int .u64 c.2] 77) hst4.out.ru.size (R.ro _ _ _ hS4.out)
        have hS5 := R.bel hS4.out hA5
        have hst5 := hst4.out.trans (R.stepB hS4.out hA5)
        have hfb5 := hfb.out.bel hA5
        have hnb5 := hnb4.out.bel hA5
        generalize w4.alloc (.cells #[.int .i64 c.1, .int .u64 c.2] 77) = w5 at *
        obtain ⟨B5, hB5⟩ := R.kids _ _ _ _ _ hS5 hL2
        have hF := anFrom_any hB5 (b.toNat + 1) (by omega)
        obtain ⟨m0, m1, m2, m3, mq, mf⟩ := cells4 hnb5.cel
        clear n0 n1 n2 n3 nq nf a0 a1 a2 aq af b0 b1 bq bf f0 f1 f2 ff hag hA5
        obtain ⟨xb, hxb⟩ : ∃ xb, xb = oB (kfrom L2 (b.toNat + 1)) := ⟨_, rfl⟩
        obtain ⟨xh, hxh⟩ : ∃ xh, xh = oH (kfrom L2 (b.toNat + 1)) := ⟨_, rfl⟩
        obtain ⟨xf, hxf⟩ : ∃ xf, xf = (kfrom L2 (b.toNat + 1)).isSome := ⟨_, rfl⟩
        rw [fromV_o, ← hxb, ← hxh, ← hxf] at hF
        replace hxb := Lib.hid hxb
        replace hxh := Lib.hid hxh
        replace hxf := Lib.hid hxf
        replace hb5 := Lib.hid hb5
        replace hS5 := Lib.hid hS5
        replace hst5 := Lib.hid hst5
        replace hfb5 := Lib.hid hfb5
        replace hnb5 := Lib.hid hnb5
        have hq4 : w.heap.size + 1 < w4.heap.size := heap_lt hfb.out.cel
        clear hB5
        push_cast at hF
        go_wp2_with fail
        refine hF.mono ?_
        clear hF
        rintro e w6 ⟨rfl, hbe6⟩
        obtain ⟨xh1, xh2⟩ := xh
        have hb6 := hb5.out.bel hbe6
        have hS6 := R.bel hS5.out hbe6
        have hst6 := hst5.out.trans (R.stepB hS5.out hbe6)
        have hfb6 := hfb5.out.bel hbe6
        have hnb6 := hnb5.out.bel hbe6
        obtain ⟨p0, p1, pq, pf⟩ := cells2 hb6.cel
        obtain ⟨r1, r2⟩ := hd_stored hb6.cel (.int .i64 xh1) (.int .u64 xh2)
        have hS7 := R.wr _ _ _ _ [w4.heap.size] hS6 r2 (by simp; exact ⟨by have := (R.ro _ _ _ hS.out).bel.size; have := hb6.old; omega, hb6.rol⟩)
        have hst7 := hst6.own r2 (by simp; exact hb6.old) R hS6
        have hfb7 := hfb6.upd r2 (by simp; omega)
        have hnb7 := hnb6.upd r2 (by simp; omega)
        have hinv : BInv w0 rs St I s g w nb path i (.cells #[.string pre, .string (val.getD s0), .bool val.isSome, .pointer (some ⟨nb, 0, none⟩)] 75) _ s2 false (b.toNat + 1) w4.heap.size L2 :=
          ⟨hst7, hS7, hL2, by omega, ⟨hb6.old, by rw [← hxh.out]; exact r1, hb6.rol⟩, hnb7, hfb7, hq4, fun hd hg x hx e1 e2 => by
            obtain ⟨x1, x2⟩ := hexA.out hd hg x hx e1 e2
            exact ⟨rfl, x2⟩, hI2.out⟩
        replace hinv := Lib.hid hinv
        clear r1 r2 hS7 hst7 hfb7 hnb7 hb6 hS6 hst6 hfb6 hnb6 hbe6
        have hlt : b.toNat + 1 ≤ 256 := by omega
        go_wp2_with fail
        go_roundg (257 - (b.toNat + 1))
        case rel => exact ⟨s2, false, b.toNat + 1, w4.heap.size, L2, rfl, by rw [hxb.out], rfl, by rw [hxf.out], hinv.out⟩
        case measure => omega
end
end Go.Proofs.YtmhlokomlngdmaaGreat
namespace Go.Proofs.YtmhlokomlngdmaaGreat
open Go.RowKit
def SeekEnd (rs : List Nat) (St : RS → Bool → World → Prop) (s : RS) (g : Bool) (h : Hd) (path key : Str) (after : Bool) (X : Nat) (w : World) (e : Ending) (w' : World) : Prop :=
  ∃ s' g' f, e = .returned (fV f) ∧ St s' g' w' ∧ RStep rs w w' s s' ∧ ((s.m = 0 ∨ s'.m + 1 ≤ s.m) ∧ s'.k ≤ X) ∧
    (s'.d = s.d → g = false → ∀ n, (h, n) ∈ s.F → n.path = bl path ++ bl n.pre → g' = false ∧ f = cnext (sub s.C n.path) key after)
/-- How a node's path stands to a key. -/
theorem split3 (p k : Byt) : (∃ q x y s t, p = q ++ x :: s ∧ k = q ++ y :: t ∧ x < y ∧ (cpre p k).length = q.length) ∨ (∃ y t, k = p ++ y :: t ∧ (cpre p k).length = p.length) ∨
    ((∃ q x y s t, p = q ++ x :: s ∧ k = q ++ y :: t ∧ y < x ∧ (cpre p k).length = q.length) ∨ (∃ s, p = k ++ s ∧ (cpre p k).length = k.length)) := by
  obtain ⟨s, t, h1, h2, h3⟩ := cpre_split p k
  rcases h3 with rfl | rfl | ⟨x, y, s', t', rfl, rfl, hne⟩
  · rw [List.append_nil] at h1
    rw [← h1] at h2 ⊢
    cases t with
    | nil => exact .inr (.inr (.inr ⟨[], by rw [h2]; simp, by rw [List.append_nil] at h2; rw [h2]⟩))
    | cons y t => exact .inr (.inl ⟨y, t, h2, rfl⟩)
  · rw [List.append_nil] at h2
    rw [← h2] at h1 ⊢
    exact .inr (.inr (.inr ⟨s, h1, rfl⟩))
  · rcases u8_tri x y with hlt | heq | hlt
    · exact .inl ⟨_, x, y, s', t', h1, h2, hlt, rfl⟩
    · exact absurd heq hne
    · exact .inr (.inr (.inl ⟨_, x, y, s', t', h1, h2, hlt, rfl⟩))
section
variable {w0 w w' : World} {r : Hd} {wk : Nat} {rs : List Nat} {St : RS → Bool → World → Prop} {s s1 s2 : RS} {g : Bool}
theorem index_at {a : Str} {q t : Byt} {x : UInt8} (ha : bl a = q ++ x :: t) {i : Nat} (hi : i = q.length) (W : World) : (Instr.index 9 (.string a) (.int .i64 (i : Nat))).run Tryz.prog W = .ok (.int .u8 x.toNat) W := by
  have hs := bl_size a
  rw [ha] at hs
  simp at hs
  have hlt : i < a.size := by omega
  have hg := bl_get hlt
  have hg2 : (bl a)[i]? = some x := by rw [ha, hi, List.getElem?_append_right (Nat.le_refl _)]; simp
  rw [run_index_string W _ a _ _ Tryz.underlying9, dif_pos (by omega)]
  rw [hg2] at hg
  injection hg with hg
  rw [hg]
  rfl
theorem below_drewN {N : Nat} {w w1 : World} (h : Below N w w1) (k : Nat) : Below N w (w1.drewN k) := ⟨h.os, h.tape, h.output, h.size, h.block⟩
theorem bel_al {w5 : World} {o : Obj} {k : Nat} (h : Below ((w.drewN k).alloc o).heap.size ((w.drewN k).alloc o) w5) : Below w.heap.size w w5 :=
  ((below_drewN (Below.refl w.heap.size w) k).alloc (Nat.le_refl _) o).trans (h.mono (((below_drewN (Below.refl w.heap.size w) k).alloc (Nat.le_refl _) o).size))
theorem bel_dr {w5 : World} {k : Nat} (h : Below (w.drewN k).heap.size (w.drewN k) w5) : Below w.heap.size w w5 := (below_drewN (Below.refl w.heap.size w) k).trans (h.mono (Nat.le_refl _))
theorem new_da {w5 : World} {o : Obj} {k : Nat} (h : Below ((w.drewN k).alloc o).heap.size ((w.drewN k).alloc o) w5) : w5.heap[w.heap.size]? = some o := Below.heap' h (heap_alloc_new (w.drewN k) o)
theorem bel_da (o : Obj) (k : Nat) : Below w.heap.size w ((w.drewN k).alloc o) := (below_drewN (Below.refl w.heap.size w) k).alloc (Nat.le_refl _) o
theorem bel_dw : Below w.heap.size w w.drew := ⟨rfl, rfl, rfl, Nat.le_refl _, fun _ _ => rfl⟩
theorem bel_dwa (o : Obj) : Below w.heap.size w (w.drew.alloc o) := bel_dw.alloc (Nat.le_refl _) o
theorem box_dwa {wb : World} (o : Obj) (hw : wb.heap.size ≤ w.heap.size) (hro : Ro w0 w s.ρ) : Box wb s (w.drew.alloc o) w.heap.size o := ⟨hw, heap_alloc_new w.drew o, hro.far _ (Nat.le_refl _)⟩
theorem res_seek {W : World} {FB : Nat} {x y z : Value} (tmps : Array Value) (h : tmps[10]? = some (.pointer (some ⟨FB, 0, none⟩))) (hc : W.heap[FB]? = some (.cells #[x, y, z] 121)) : (results Tryz.f59 tmps).run Tryz.prog W = .ok (.agg #[x, y, z]) W := by
  obtain ⟨c0, c1, c2, _, _⟩ := cells3 hc
  simp [results, Tryz.results59, go_sem, h, c0, c1, c2]
theorem m_le {a b c : Nat} (h : a = 0 ∨ b + 1 = a) (hc : c ≤ b) : a = 0 ∨ c + 1 ≤ a := h.imp_right fun h => by omega
theorem m_le' {a b c : Nat} (h : a = 0 ∨ b + 1 ≤ a) (hc : c ≤ b) : a = 0 ∨ c + 1 ≤ a := h.imp_right fun h => by omega
theorem d_eq {a b c : Nat} (h1 : a ≤ b) (h2 : b ≤ c) (h : c = a) : b = a ∧ c = b := by omega
/-- What a seek below left: its result lies in a box. -/
def SkB (rs : List Nat) (St : RS → Bool → World → Prop) (X1 : Nat) (w : World) (s s1 : RS) (g : Bool) (n : AN) (pth key : Str) (after : Bool) (y : UInt8) (NB XB : Nat) (wz : World) (s2 : RS) (g2 : Bool) (f : Option (Str × Str)) : Prop :=
  St s2 g2 wz ∧ RStep rs w wz s s2 ∧ s1.d ≤ s2.d ∧ ((s.m = 0 ∨ s2.m + 1 ≤ s.m) ∧ s2.k ≤ X1) ∧ (s2.K n.nb).isSome = true ∧ Box w s2 wz (w.heap.size + 1) (.cells #[.string ⟨#[]⟩, .string ⟨#[]⟩, .bool false] 121) ∧ Box w s2 wz NB (.cells #[.string n.pre, .string (n.val.getD s0), .bool n.val.isSome, .pointer (some ⟨n.nb, 0, none⟩)] 75) ∧
    Box w s2 wz XB (.cells #[.string (fK f), .string (fX f), .bool f.isSome] 121) ∧
    (s2.d = s1.d → g = false → n.path = bl pth → s2.F = s1.F ∧ s2.C = s1.C ∧ g2 = false ∧ f = cnext (sub s1.C (n.path ++ [y])) key after)
set_option maxRecDepth 100000 in
set_option maxHeartbeats 1000000 in
theorem seek_step (R : Rdr w0 r wk rs St) (hS : St s g w) (h : Hd) (path key : Str) (after : Bool) (hz : path.size ≤ big) (X1 X : Nat) (hX1 : s.k + 1 ≤ X1) (hXX : X1 ≤ X) (hXK : X1 ≤ KM)
    (hSk : ∀ s1 g1 w1 n b c, RStep rs w w1 s s1 → (s.m = 0 ∨ s1.m + 1 = s.m) → s1.k ≤ s.k + 1 → (h, n) ∈ s1.F → St s1 g1 w1 → (b, c) ∈ n.kids → Calls Tryz.prog 59 #[.pointer (some ⟨wk, 0, none⟩), hV c, .string (path ++ n.pre ++ bs [b]), .string key, .bool after] w1 (SeekEnd rs St s1 g1 c (path ++ n.pre ++ bs [b]) key after X1 w1))
    (hB : ∀ s1 g1 w1 n i, RStep rs w w1 s s1 → (s.m = 0 ∨ s1.m + 1 ≤ s.m) → s1.k ≤ X1 → (s.m = 0 → (h, n) ∈ s.F) → (s1.K n.nb).isSome = true → n.pre.size ≤ 600 → St s1 g1 w1 → i ≤ 256 → Calls Tryz.prog 76 #[.pointer (some ⟨wk, 0, none⟩), nV n, .string (path ++ n.pre), .int .i64 (i : Nat)] w1 (BelowEnd rs St s1 g1 n.nb (path ++ n.pre) i X w1)) :
    Calls Tryz.prog 59 #[.pointer (some ⟨wk, 0, none⟩), hV h, .string path, .string key, .bool after] w (SeekEnd rs St s g h path key after X w) := by
  replace hB := Lib.hid hB
  replace hSk := Lib.hid hSk
  go_enter Tryz.func59, Tryz.ntmps59
  go_upto_region 1 with fail
  obtain ⟨hbx, hby⟩ := heap_two w (.cells #[.int .i64 h.1, .int .u64 h.2] 77) (.cells #[.string ⟨#[]⟩, .string ⟨#[]⟩, .bool false] 121)
  have hBe := below_two w (.cells #[.int .i64 h.1, .int .u64 h.2] 77) (.cells #[.string ⟨#[]⟩, .string ⟨#[]⟩, .bool false] 121)
  generalize (w.alloc (.cells #[.int .i64 h.1, .int .u64 h.2] 77)).alloc (.cells #[.string ⟨#[]⟩, .string ⟨#[]⟩, .bool false] 121) = W0 at *
  obtain ⟨k0, k1, kq, _⟩ := cells2 hbx
  have hS0 := R.bel hS hBe
  have hN := R.node s g W0 h hS0 (Nat.le_trans hX1 hXK)
  have hfb0 : Box w s W0 (w.heap.size + 1) (.cells #[.string ⟨#[]⟩, .string ⟨#[]⟩, .bool false] 121) := ⟨Nat.le_succ _, hby, (R.ro _ _ _ hS).far _ (by omega)⟩
  replace hBe := Lib.hid hBe
  replace hS := Lib.hid hS
  replace hS0 := Lib.hid hS0
  replace hfb0 := Lib.hid hfb0
  clear hbx hby
  go_wp2_with fail
  refine hN.mono ?_
  clear hN
  rintro e w1 ⟨s1, hst, ⟨hm, hk0⟩, hor⟩
  have hk1 := Nat.le_of_eq hk0
  clear hk0
  rcases hor with ⟨n, hn, rfl, hS1⟩ | ⟨hn, rfl, hS1⟩
  · obtain ⟨ok1, ct1, kid1, lim1, _⟩ := R.ok _ _ _ hS1
    have hps : n.pre.size ≤ 600 := Nat.le_trans (ok1.pre_le hn) (lim1 _ hn)
    have hkd := kid1 _ hn
    have hb2 : Below w1.heap.size w1 (w1.alloc (.cells #[.string n.pre, .string (n.val.getD s0), .bool n.val.isSome, .pointer (some ⟨n.nb, 0, none⟩)] 75)) := (Below.refl _ _).alloc (Nat.le_refl _) _
    have hS2 := R.bel hS1 hb2
    have hst2 := (hst.trans (R.stepB hS1 hb2)).bel R hS.out hBe.out
    have hfb2 := (hfb0.out.step R.h0 hst).bel hb2
    have hnb2 := Box.new (s := s1) (w := w1) (wb := w) (.cells #[.string n.pre, .string (n.val.getD s0), .bool n.val.isSome, .pointer (some ⟨n.nb, 0, none⟩)] 75) (Nat.le_trans hBe.out.size hst.ru.size) (R.ro _ _ _ hS1)
    have hno : ¬ 9223372036854775807 < path.size + n.pre.size := by unfold big at hz; omega
    have hB2 := hB
    have hkX := Lib.hid (Nat.le_trans hk1 (Nat.le_trans hX1 hXX))
    have hkX1 := Lib.hid (Nat.le_trans hk1 hX1)
    unfold nV at hB2 ⊢
    have hX : ∀ (s' : RS) (g' : Bool) (f : Option (Str × Str)), s1.d ≤ s'.d → (s'.d = s1.d → g = false → n.path = bl (path ++ n.pre) → g' = false ∧ f = cnext (sub s1.C n.path) key after) → (s'.d = s.d → g = false → ∀ m, (h, m) ∈ s.F → m.path = bl path ++ bl m.pre → g' = false ∧ f = cnext (sub s.C m.path) key after) := fun s' g' f hd1 hh hd hg m hm hp => by
      have d0 := hst.d
      obtain ⟨e1, e2, _⟩ := hst.same (by omega)
      have hmm := hn
      rw [e1] at hmm
      have := nodup_inj (R.ok _ _ _ hS.out).1.nd hm hmm rfl
      injection this with _ this
      subst this
      rw [← e2]
      exact hh (by omega) hg (by rw [bl_app]; exact hp)
    replace hX := Lib.hid hX
    go_upto_region 2 with fail
    generalize w1.alloc (.cells #[.string n.pre, .string (n.val.getD s0), .bool n.val.isSome, .pointer (some ⟨n.nb, 0, none⟩)] 75) = w2 at *
    obtain ⟨z0, z1, z2, z3, zq, zf⟩ := cells4 hnb2.cel
    have hC := common_any (path ++ n.pre) key w2 (by rw [ByteArray.size_append]; omega)
    obtain ⟨c, hc⟩ : ∃ c, c = (cpre (bl (path ++ n.pre)) (bl key)).length := ⟨_, rfl⟩
    rw [← hc] at hC
    replace hc := Lib.hid hc
    obtain ⟨pth, hpth⟩ : ∃ pth, pth = path ++ n.pre := ⟨_, rfl⟩
    have hpz : pth.size ≤ big + 600 := by rw [hpth, ByteArray.size_append]; omega
    replace hst2 := Lib.hid hst2
    replace hS2 := Lib.hid hS2
    replace hfb2 := Lib.hid hfb2
    replace hnb2 := Lib.hid hnb2
    replace hb2 := Lib.hid hb2
    replace hst := Lib.hid hst
    replace hm := Lib.hid hm
    replace hkd := Lib.hid hkd
    replace ok1 := Lib.hid ok1
    replace ct1 := Lib.hid ct1
    clear kid1 lim1
    go_wp2_with fail
    refine hC.mono ?_
    clear hC hno
    rintro e w3 ⟨rfl, hb3⟩
    go_upto_region 6 with fail
    have hS3 := R.bel hS2.out hb3
    have hst3 := hst2.out.trans (R.stepB hS2.out hb3)
    have hfb3 := hfb2.out.bel hb3
    have hnb3 := hnb2.out.bel hb3
    rw [← hpth] at hX hc ⊢
    have hsz1 := bl_size pth
    have hsz2 := bl_size key
    clear z0 z1 z2 z3 zq zf hb3
    obtain ⟨z0, z1, z2, z3, zq, zf⟩ := cells4 hnb3.cel
    have hspl := split3 (bl pth) (bl key)
    rw [← hc.out] at hspl
    replace hpth := Lib.hid hpth
    rcases hspl with ⟨q, x, y, u, v, e1, e2, hlt, e3⟩ | ⟨y, v, e2, e3⟩ | hspl
    · have ga := fun W => index_at e1 e3 W
      have gb := fun W => index_at e2 e3 W
      have g1 : decide (c < pth.size) = true := by rw [e1] at hsz1; simp at hsz1; exact decide_eq_true (by omega)
      have g2 : decide (c < key.size) = true := by rw [e2] at hsz2; simp at hsz2; exact decide_eq_true (by omega)
      have g3 : decide (x.toNat < y.toNat) = true := decide_eq_true (UInt8.lt_iff_toNat_lt.1 hlt)
      have hex : Hid (n.path = bl pth → none = cnext (sub s1.C n.path) key after) := Lib.hid fun hp => (cnext_low (sub_low (hp.trans e1) e2 hlt)).symm
      replace e1 := Lib.hid e1
      replace e2 := Lib.hid e2
      replace e3 := Lib.hid e3
      replace hsz1 := Lib.hid hsz1
      replace hsz2 := Lib.hid hsz2
      go_quiet (fail)
      have hbq := below_drewN (Below.refl w3.heap.size w3) nq
      have hS4 := R.bel hS3 hbq
      have hst4 := hst3.trans (R.stepB hS3 hbq)
      have hfb4 := hfb3.bel hbq
      generalize w3.drewN nq = w4 at *
      obtain ⟨q1, q2, q3⟩ := R.fin hS.out hst4 hS4 (Nat.le_succ _) hfb4.rol hfb4.cel (.string ⟨#[]⟩) (.string ⟨#[]⟩) (.bool false)
      replace q1 := Lib.hid q1
      obtain ⟨a0, a1, a2, aq, af⟩ := cells3 hfb4.cel
      replace q2 := Lib.hid q2
      replace q3 := Lib.hid q3
      clear hS4 hst4 hfb4 hS3 hst3 hfb3 hnb3 hbq
      go_wp2_with (refine bodyPost_ret (res_seek _ ?_ q1.out) rfl (Hid.out ?_); simp only [List.getElem?_toArray, List.getElem?_cons_succ, List.getElem?_cons_zero])
      refine Lib.hid ?_
      refine ⟨s1, g, none, rfl, q2.out, q3.out, ⟨m_le hm.out (Nat.le_refl _), hkX.out⟩, hX.out s1 g none (Nat.le_refl _) (fun _ hg hp => ⟨hg, hex.out hp⟩)⟩
    · have hcs : c = pth.size := by rw [← hsz1]; exact e3
      subst hcs
      have gb := fun W => index_at e2 hsz1.symm W
      have g2 : decide (pth.size < key.size) = true := by rw [e2] at hsz2; simp at hsz2; exact decide_eq_true (by omega)
      have g2' : pth.size < key.size := of_decide_eq_true g2
      replace e2 := Lib.hid e2
      replace e3 := Lib.hid e3
      replace hsz1 := Lib.hid hsz1
      replace hsz2 := Lib.hid hsz2
      obtain ⟨gh, hgh⟩ : ∃ gh, gh = (kget n.kids y).getD (0, 0) := ⟨_, rfl⟩
      obtain ⟨gf, hgf⟩ : ∃ gf, gf = (kget n.kids y).isSome := ⟨_, rfl⟩
      have hG : ∀ W, Below w3.heap.size w3 W → Calls Tryz.prog 46 #[.pointer (some ⟨n.nb, 0, none⟩), .int .u8 y.toNat] W fun e w' => e = .returned (.tuple #[hV gh, .bool gf]) ∧ Below W.heap.size W w' := fun W hW => by
        obtain ⟨B, hB⟩ := R.kids _ _ _ _ _ (R.bel hS3 hW) hkd.out
        rw [hgh, hgf]
        exact anGet_any hB y
      replace hG := Lib.hid hG
      replace hgh := Lib.hid hgh
      replace hgf := Lib.hid hgf
      replace hS3 := Lib.hid hS3
      replace hst3 := Lib.hid hst3
      replace hfb3 := Lib.hid hfb3
      replace hnb3 := Lib.hid hnb3
      go_quiet (fail)
      go_upto_region 9 with fail
      go_cut [14, 15] (fun v14 v15 wz => ∃ GB, v14 = .pointer (some ⟨GB, 0, none⟩) ∧ v15 = .bool gf ∧ wz.heap[GB]? = some (.cells #[.int .i64 gh.1, .int .u64 gh.2] 77) ∧ w3.heap.size ≤ GB ∧ Below w3.heap.size w3 wz)
      case first =>
        have hne := World.new_ne w3 _ z3
        have hnz := World.new_ne w3 _ z0
        have hnn : w1.heap.size ≠ w3.heap.size := fun e => hnz e.symm
        go_region_held3 (fun W => W.cell? ⟨w1.heap.size, 3, none⟩ = some (.pointer (some ⟨n.nb, 0, none⟩))) (first | exact z3 | exact i3 | go_keep) (first
          | (go_at_call 46; refine (hG.out _ (bel_da _ _)).mono ?_; rintro e w5 ⟨rfl, hb5⟩; have hy5 := new_da hb5; obtain ⟨y50, y51, y5q, y5f⟩ := cells2 hy5; have hbw := bel_al hb5; have i3 := keep hbw z3; replace hy5 := Lib.hid hy5; replace hbw := Lib.hid hbw; replace hb5 := Lib.hid hb5)
          | (go_at_call 46; refine (hG.out _ (below_drewN (Below.refl _ _) _)).mono ?_; rintro e w5 ⟨rfl, hb5⟩; have hbw := bel_dr hb5; have i3 := keep hbw z3; replace hbw := Lib.hid hbw; replace hb5 := Lib.hid hb5))
        all_goals
          go_wp2_with fail
          go_meet
          first
          | exact ⟨w5.heap.size, rfl, rfl, heap_alloc_new _ _, hbw.out.size, hbw.out.alloc hbw.out.size _⟩
          | exact ⟨w3.heap.size, rfl, rfl, (hd_stored hy5.out _ _).1, Nat.le_refl _, hbw.out.trans ((hd_stored hy5.out _ _).2.below hbw.out.size (fun k hk => by simp at hk; omega))⟩
      case rest =>
        obtain ⟨GB, rfl, rfl, hGB, hGq, hbw⟩ := hcut
        have hS4 := R.bel hS3.out hbw
        have hst4 := hst3.out.trans (R.stepB hS3.out hbw)
        have hfb4 := hfb3.out.bel hbw
        have hnb4 := hnb3.out.bel hbw
        have hgb4 : Box w s1 wc GB (.cells #[.int .i64 gh.1, .int .u64 gh.2] 77) := ⟨Nat.le_trans hst3.out.ru.size hGq, hGB, (R.ro _ _ _ hS3.out).far _ hGq⟩
        have hal : Hid (∀ (hp : n.path = bl pth), cnext (sub s1.C n.path) key after = (match kget n.kids y with | some _ => cnext (sub s1.C (n.path ++ [y])) key after | none => none).or (belowC s1.C n.path n.kids (y.toNat + 1)).head?) := Lib.hid fun hp => art_in ok1.out ct1.out hn (by rw [e2.out, hp])
        clear z0 z1 z2 z3 zq zf hS3 hst3 hfb3 hnb3 hS2 hst2 hfb2 hnb2 hb2 hG hbw hGB hS1 hS0
        obtain ⟨wd, hwd⟩ : ∃ wd, wd = wc := ⟨_, rfl⟩
        subst hwd
        obtain ⟨m0, m1, mq, mf⟩ := cells2 hgb4.cel
        obtain ⟨n0, n1, n2, n3, nq1, nf⟩ := cells4 hnb4.cel
        obtain ⟨a0, a1, a2, aq, af⟩ := cells3 hfb4.cel
        replace hS4 := Lib.hid hS4
        replace hst4 := Lib.hid hst4
        replace hfb4 := Lib.hid hfb4
        replace hnb4 := Lib.hid hnb4
        replace hgb4 := Lib.hid hgb4
        go_upto_if 74 with fail
        go_cut [] (fun wz => ∃ s2 g2, St s2 g2 wz ∧ RStep rs w wz s s2 ∧ s1.d ≤ s2.d ∧ ((s.m = 0 ∨ s2.m + 1 ≤ s.m) ∧ s2.k ≤ X1) ∧ (s2.K n.nb).isSome = true ∧ Box w s2 wz (w.heap.size + 1) (.cells #[.string ⟨#[]⟩, .string ⟨#[]⟩, .bool false] 121) ∧ Box w s2 wz w1.heap.size (.cells #[.string n.pre, .string (n.val.getD s0), .bool n.val.isSome, .pointer (some ⟨n.nb, 0, none⟩)] 75) ∧
          (s2.d = s1.d → g = false → n.path = bl pth → s2.F = s1.F ∧ s2.C = s1.C ∧ g2 = false ∧ cnext (sub s1.C n.path) key after = (belowC s1.C n.path n.kids (y.toNat + 1)).head?))
        case first =>
          cases gf with
          | false =>
            have hkn : kget n.kids y = none := by
              have := hgf.out
              cases hk : kget n.kids y with
              | none => rfl
              | some z => rw [hk] at this; cases this
            go_wp2_with fail
            go_meet
            refine ⟨s1, g, hS4.out, hst4.out, Nat.le_refl _, ⟨hm.out.imp_right (fun h => by omega), hkX1.out⟩, by rw [hkd.out]; rfl, hfb4.out, hnb4.out, fun _ hg hp => ⟨rfl, rfl, hg, ?_⟩⟩
            rw [hal.out hp, hkn]
            rfl
          | true =>
            have hkn : kget n.kids y = some gh := by
              have h1 := hgf.out
              have h2 := hgh.out
              cases hk : kget n.kids y with
              | none => rw [hk] at h1; cases h1
              | some z => rw [hk] at h2; rw [h2]; rfl
            have hmem : (y, gh) ∈ n.kids := (kget_iff (ok1.out.srt _ hn)).1 hkn
            obtain ⟨sy, hsy⟩ : ∃ sy, sy = bs [y] := ⟨_, rfl⟩
            have hxe : key.extract pth.size (pth.size + 1) = sy := by
              rw [hsy]
              apply bl_inj
              rw [bl_bs]
              show (key.extract pth.size (pth.size + 1)).data.toList = [y]
              rw [ByteArray.data_extract, Array.toList_extract]
              show (bl key).extract pth.size (pth.size + 1) = [y]
              rw [e2.out, ← hsz1.out, List.extract_eq_take_drop, List.drop_left]
              simp
            have hno : ¬ 9223372036854775807 < pth.size + sy.size := by
              have : sy.size = 1 := by rw [hsy]; rfl
              unfold big at hpz; omega
            have hpn : pth.size ≤ 1125899906843224 := by unfold big at hpz; omega
            have hsl : ∀ W, (Instr.slice 9 (.string key) (some (.int .i64 pth.size)) (some (.int .i64 (pth.size + 1))) none).run Tryz.prog W = .ok (.string sy) W := fun W => by
              rw [run_slice_string_if W 9 key .i64 .i64 _ _ Tryz.underlying9, if_pos (by omega), if_pos (by omega), ← hxe]
              rfl
            have hwr : IntKind.i64.wrap ((pth.size : Int) + 1) = (pth.size : Int) + 1 := IntWalk.i64_in _ (by omega)
            have hK : ∀ W, Below wd.heap.size wd W → Calls Tryz.prog 59 #[.pointer (some ⟨wk, 0, none⟩), hV gh, .string (pth ++ sy), .string key, .bool after] W (SeekEnd rs St s1 g gh (pth ++ sy) key after X1 W) := fun W hW => by
              have := hSk.out s1 g W n y gh (hst4.out.trans (R.stepB hS4.out hW)) hm.out hk1 hn (R.bel hS4.out hW) hmem
              rw [← hpth.out, ← hsy] at this
              exact this
            replace hK := Lib.hid hK
            replace hsy := Lib.hid hsy
            have hne := World.new_ne wd _ m0
            go_upto_region 11 with fail
            go_cut [16] (fun v16 wz => ∃ XB s2 g2 f, v16 = .pointer (some ⟨XB, 0, none⟩) ∧ w.heap.size + 1 < XB ∧ SkB rs St X1 w s s1 g n pth key after y w1.heap.size XB wz s2 g2 f)
            case first =>
              have hfinA : ∀ (W w6 wz : World) (s2 : RS) (g2 : Bool) (f : Option (Str × Str)) (XB : Nat), Below wd.heap.size wd W → St s2 g2 w6 → RStep rs W w6 s1 s2 → ((s1.m = 0 ∨ s2.m + 1 ≤ s1.m) ∧ s2.k ≤ X1) → (s2.d = s1.d → g = false → ∀ m, (gh, m) ∈ s1.F → m.path = bl (pth ++ sy) ++ bl m.pre → g2 = false ∧ f = cnext (sub s1.C m.path) key after) →
                  (∃ S, Upd S w6 wz ∧ ∀ q, q ∈ S → q = wd.heap.size ∧ s2.ρ q = 0) → Box w s2 wz XB (.cells #[.string (fK f), .string (fX f), .bool f.isSome] 121) → SkB rs St X1 w s s1 g n pth key after y w1.heap.size XB wz s2 g2 f := by
                intro W w6 wz s2 g2 f XB hW h6 hs6 hm6 hx6 hu hb
                obtain ⟨S, hu, hS⟩ := hu
                have hw0 := (R.ro _ _ _ hS4.out).bel.size
                have hw1 := hst4.out.ru.size
                have hst6 := (hst4.out.trans (R.stepB hS4.out hW)).trans hs6
                have hb1 := (hfb4.out.bel hW).step R.h0 hs6
                have hb2 := (hnb4.out.bel hW).step R.h0 hs6
                have l1 := heap_lt hfb4.out.cel
                have l2 := heap_lt hnb4.out.cel
                have hgt : ∀ q, q ∈ S → w.heap.size ≤ q := fun q hq => by rw [(hS q hq).1]; exact hw1
                refine ⟨R.wr _ _ _ _ S h6 hu (fun q hq => ⟨by rw [(hS q hq).1]; exact hw0, (hS q hq).2⟩), hst6.own hu hgt R h6, hs6.d, ⟨hm.out.imp_right (fun h => by have := hs6.m; omega), hm6.2⟩, hs6.kd _ (by rw [hkd.out]; rfl), hb1.upd hu (fun hm => by have := (hS _ hm).1; omega), hb2.upd hu (fun hm => by have := (hS _ hm).1; omega), hb, fun hd hg hp => ?_⟩
                obtain ⟨e5, e6, _⟩ := hs6.same hd
                obtain ⟨m, m1, m2⟩ := ok1.out.dn _ hn _ hmem
                obtain ⟨x1, x2⟩ := hx6 hd hg m m1 (by rw [m2, bl_app, hsy.out]; show n.path ++ y :: bl m.pre = bl pth ++ [y] ++ bl m.pre; rw [hp]; simp)
                exact ⟨e5, e6, x1, by rw [x2, sub_kid ok1.out ct1.out hn hmem m1]⟩
              replace hfinA := Lib.hid hfinA
              have hwq : w.heap.size + 1 < wd.heap.size := heap_lt hfb4.out.cel
              go_region_held3 (fun W => W.cell? ⟨GB, 0, none⟩ = some (.int .i64 gh.1) ∧ W.cell? ⟨GB, 1, none⟩ = some (.int .u64 gh.2)) (first | exact ⟨m0, m1⟩ | exact ⟨i0, i1⟩ | go_keep) (first
                | (go_at_call 59; refine (hK.out _ (bel_dwa _)).mono ?_; rintro e w6 ⟨s2, g2, f, rfl, hS6, hst6, hm6, hex6⟩; have hxb := (box_dwa (w0 := w0) (s := s1) (.cells #[.string ⟨#[]⟩, .string ⟨#[]⟩, .bool false] 121) hst4.out.ru.size (R.ro _ _ _ hS4.out)).step R.h0 hst6; obtain ⟨i0, i1, _, _⟩ := cells2 ((hgb4.out.bel (bel_dwa _)).step R.h0 hst6).cel; obtain ⟨x60, x61, x62, x6q, x6f⟩ := cells3 hxb.cel; have hfb := hfinA.out _ _ _ s2 g2 f wd.heap.size (bel_dwa _) hS6 hst6 hm6 hex6 ⟨_, (found_stored hxb.cel (.string (fK f)) (.string (fX f)) (.bool f.isSome)).2, fun q hq => ⟨List.mem_singleton.1 hq, (congrArg s2.ρ (List.mem_singleton.1 hq)).trans hxb.rol⟩⟩ ⟨hxb.old, (found_stored hxb.cel (.string (fK f)) (.string (fX f)) (.bool f.isSome)).1, hxb.rol⟩; replace hfb := Lib.hid hfb; replace hS6 := Lib.hid hS6; replace hst6 := Lib.hid hst6; replace hm6 := Lib.hid hm6; replace hex6 := Lib.hid hex6; replace hxb := Lib.hid hxb; unfold fV)
                | (go_at_call 59; refine (hK.out _ bel_dw).mono ?_; rintro e w6 ⟨s2, g2, f, rfl, hS6, hst6, hm6, hex6⟩; obtain ⟨i0, i1, _, _⟩ := cells2 ((hgb4.out.bel bel_dw).step R.h0 hst6).cel; have hfb := hfinA.out _ _ _ s2 g2 f w6.heap.size bel_dw hS6 hst6 hm6 hex6 ⟨[], Upd.of_below ((Below.refl w6.heap.size w6).alloc (Nat.le_refl _) (.cells #[.string (fK f), .string (fX f), .bool f.isSome] 121)), fun q hq => absurd hq List.not_mem_nil⟩ (Box.new (w0 := w0) (s := s2) _ (Nat.le_trans hst4.out.ru.size hst6.ru.size) (R.ro _ _ _ hS6)); have h6s := hst6.ru.size; replace hfb := Lib.hid hfb; replace hS6 := Lib.hid hS6; replace hst6 := Lib.hid hst6; replace hm6 := Lib.hid hm6; replace hex6 := Lib.hid hex6; unfold fV))
              all_goals
                go_wp2_with fail
                go_meet
                exact ⟨_, s2, g2, f, rfl, by first | exact hwq | exact Nat.lt_of_lt_of_le hwq h6s, hfb.out⟩
            case rest =>
              obtain ⟨XB, s2, g2, f, rfl, hXq, hsk⟩ := hcut
              obtain ⟨hS6, hst6, hd6, hm6, hk6, hfb6, hnb6, hxb6, hex6⟩ := hsk
              obtain ⟨we, hwe⟩ : ∃ we, we = wc := ⟨_, rfl⟩
              subst hwe
              obtain ⟨x0, x1, x2, xq, xf⟩ := cells3 hxb6.cel
              obtain ⟨b0, b1, b2, bq, bf⟩ := cells3 hfb6.cel
              have hag := (R.again _ _ _ hS6).1
              have hwk := (R.again _ _ _ hS6).2
              clear m0 m1 mq mf n0 n1 n2 n3 nq1 nf a0 a1 a2 aq af hsl hxe hwr hne gb
              have hall : Hid (s2.d = s1.d → g = false → n.path = bl pth → s2.F = s1.F ∧ s2.C = s1.C ∧ g2 = false ∧ cnext (sub s1.C n.path) key after = f.or (belowC s1.C n.path n.kids (y.toNat + 1)).head?) := Lib.hid fun hd hg hp => by
                obtain ⟨q1, q2, q3, q4⟩ := hex6 hd hg hp
                refine ⟨q1, q2, q3, ?_⟩
                rw [hal.out hp, hkn, ← q4]
              replace hS6 := Lib.hid hS6
              replace hst6 := Lib.hid hst6
              replace hm6 := Lib.hid hm6
              replace hk6 := Lib.hid hk6
              replace hfb6 := Lib.hid hfb6
              replace hnb6 := Lib.hid hnb6
              replace hxb6 := Lib.hid hxb6
              replace hd6 := Lib.hid hd6
              clear hex6
              by_cases hret : f.isSome = true ∨ g2 = true
              · obtain ⟨q1, q2, q3⟩ := R.fin hS.out hst6.out hS6.out (Nat.le_succ _) hfb6.out.rol hfb6.out.cel (.string (fK f)) (.string (fX f)) (.bool f.isSome)
                replace q1 := Lib.hid q1
                replace q2 := Lib.hid q2
                replace q3 := Lib.hid q3
                have hfin : Hid (s2.d = s1.d → g = false → n.path = bl pth → g2 = false ∧ f = cnext (sub s1.C n.path) key after) := Lib.hid fun hd hg hp => by
                  obtain ⟨_, _, r3, r4⟩ := hall.out hd hg hp
                  refine ⟨r3, ?_⟩
                  rw [r4]
                  cases f with
                  | some y => rfl
                  | none => rw [r3] at hret; simp at hret
                have hor : (f.isSome || g2) = true := by simpa using hret
                clear hret
                generalize hfs : f.isSome = fs at *
                replace hfs := Lib.hid hfs
                cases fs with
                | true =>
                  go_wp2_with (refine bodyPost_ret (res_seek _ ?_ q1.out) rfl (Hid.out ?_); simp only [List.getElem?_toArray, List.getElem?_cons_succ, List.getElem?_cons_zero])
                  refine Lib.hid ?_
                  refine ⟨s2, g2, f, by unfold fV; rw [hfs.out], q2.out, q3.out, ⟨hm6.out.1, Nat.le_trans hm6.out.2 hXX⟩, hX.out s2 g2 f hd6.out hfin.out⟩
                | false =>
                  have hg2 : g2 = true := by simpa using hor
                  subst hg2
                  go_wp2_with (refine bodyPost_ret (res_seek _ ?_ q1.out) rfl (Hid.out ?_); simp only [List.getElem?_toArray, List.getElem?_cons_succ, List.getElem?_cons_zero])
                  refine Lib.hid ?_
                  refine ⟨s2, true, f, by unfold fV; rw [hfs.out], q2.out, q3.out, ⟨hm6.out.1, Nat.le_trans hm6.out.2 hXX⟩, hX.out s2 true f hd6.out hfin.out⟩
              · have hg2 : g2 = false := by cases g2 with | true => simp at hret | false => rfl
                subst hg2
                have hf0 : f = none := by cases f with | some y => simp at hret | none => rfl
                subst hf0
                clear hret
                simp only [Option.isSome_none] at x2
                go_wp2_with fail
                go_meet
                refine ⟨s2, false, hS6.out, hst6.out, hd6.out, hm6.out, hk6.out, hfb6.out, hnb6.out, fun hd hg hp => ?_⟩
                obtain ⟨r1, r2, r3, r4⟩ := hall.out hd hg hp
                exact ⟨r1, r2, rfl, by simpa using r4⟩
        case rest =>
          obtain ⟨s2, g2, hS6, hst6, hd6, hm6, hk6, hfb6, hnb6, hex6⟩ := hcut
          obtain ⟨we, hwe⟩ : ∃ we, we = wc := ⟨_, rfl⟩
          subst hwe
          obtain ⟨p0, p1, p2, p3, pq, pf⟩ := cells4 hnb6.cel
          clear m0 m1 mq mf n0 n1 n2 n3 nq1 nf a0 a1 a2 aq af hS4 hst4 hfb4 hnb4 hgb4
          have hy256 : y.toNat < 256 := y.toNat_lt
          have hC := hB.out s2 g2 we.drew n (y.toNat + 1) (hst6.trans (R.stepB hS6 bel_dw)) hm6.1 hm6.2 (fun h0 => by rw [← (hst.out.same (hst.out.zero h0)).1]; exact hn) hk6 hps (R.bel hS6 bel_dw) (by omega)
          rw [← hpth.out] at hC
          push_cast at hC
          have hst7 := hst6.trans (R.stepB hS6 (bel_dw (w := we)))
          have hfb7 := hfb6.bel (bel_dw (w := we))
          replace hC := Lib.hid hC
          replace hS6 := Lib.hid hS6
          replace hst7 := Lib.hid hst7
          replace hfb7 := Lib.hid hfb7
          replace hm6 := Lib.hid hm6
          replace hd6 := Lib.hid hd6
          replace hex6 := Lib.hid hex6
          have hwy : IntKind.i64.wrap ((y.toNat : Int) + 1) = (y.toNat : Int) + 1 := IntWalk.i64_in _ (by omega)
          clear hst6 hk6 hfb6 hnb6
          go_upto_region 14 with fail
          go_still_tail 8, (by kernel_rfl)
          change wpList _ _ _ _ _ we.drew
          go_wp2_with fail
          refine hC.out.mono ?_
          clear hC
          rintro e w8 ⟨s3, g3, f, rfl, hS8, hst8, hk8, hex8⟩
          have hfb8 := hfb7.out.step R.h0 hst8
          obtain ⟨q1, q2, q3⟩ := R.fin hS.out (hst7.out.trans hst8) hS8 (Nat.le_succ _) hfb8.rol hfb8.cel (.string (fK f)) (.string (fX f)) (.bool f.isSome)
          replace q1 := Lib.hid q1
          obtain ⟨b0, b1, b2, bq, bf⟩ := cells3 hfb8.cel
          have hd8 := hst8.d
          have hm8 := hst8.m
          replace q2 := Lib.hid q2
          replace q3 := Lib.hid q3
          replace hex8 := Lib.hid hex8
          replace hfb8 := Lib.hid hfb8
          replace hst8 := Lib.hid hst8
          replace hS8 := Lib.hid hS8
          unfold fV
          go_wp2_with (refine bodyPost_ret (res_seek _ ?_ q1.out) rfl (Hid.out ?_); simp only [List.getElem?_toArray, List.getElem?_cons_succ, List.getElem?_cons_zero])
          refine Lib.hid ?_
          refine ⟨s3, g3, f, rfl, q2.out, q3.out, ⟨m_le' hm6.out.1 hm8, hk8⟩, hX.out s3 g3 f (Nat.le_trans hd6.out hd8) (fun hd hg hp => ?_)⟩
          obtain ⟨o1, o2⟩ := d_eq hd6.out hd8 hd
          obtain ⟨r1, r2, r3, r4⟩ := hex6.out o1 hg hp
          obtain ⟨x1, x2⟩ := hex8.out o2 r3 (h, n) (by rw [r1]; exact hn) rfl hp
          exact ⟨x1, by rw [x2, r4, r2]⟩
    · have hge : Hid (n.path = bl pth → (∃ s, n.path = bl key ++ s) ∨ ∃ c s t a b, n.path = c ++ a :: s ∧ bl key = c ++ b :: t ∧ b < a) := Lib.hid fun hp => by
        rcases hspl with ⟨q, x, y, u, v, e1, e2, hlt, e3⟩ | ⟨u, e1, e3⟩
        · exact .inr ⟨q, u, v, x, y, by rw [hp, e1], e2, hlt⟩
        · exact .inl ⟨u, by rw [hp, e1]⟩
      replace hspl := Lib.hid hspl
      replace hsz1 := Lib.hid hsz1
      replace hsz2 := Lib.hid hsz2
      replace hS3 := Lib.hid hS3
      replace hst3 := Lib.hid hst3
      replace hfb3 := Lib.hid hfb3
      replace hnb3 := Lib.hid hnb3
      go_cut [33] (fun v33 wz => v33 = .bool false ∧ Below w3.heap.size w3 wz)
      case first =>
        rcases hspl.out with ⟨q, x, y, u, v, e1, e2, hlt, e3⟩ | ⟨u, e1, e3⟩
        · have ga := fun W => index_at e1 e3 W
          have gb := fun W => index_at e2 e3 W
          have g1 : decide (c < pth.size) = true := by have h1 := hsz1.out; rw [e1] at h1; simp at h1; exact decide_eq_true (by omega)
          have g2 : decide (c < key.size) = true := by have h2 := hsz2.out; rw [e2] at h2; simp at h2; exact decide_eq_true (by omega)
          have g3 : decide (x.toNat < y.toNat) = false := decide_eq_false (fun h => by have := UInt8.lt_iff_toNat_lt.1 hlt; omega)
          replace e1 := Lib.hid e1
          replace e2 := Lib.hid e2
          replace e3 := Lib.hid e3
          go_quiet (fail)
          go_wp2_with fail
          go_meet
          exact ⟨rfl, below_drewN (Below.refl _ _) _⟩
        · have hck : c = key.size := by rw [e3]; exact hsz2.out
          subst hck
          replace e1 := Lib.hid e1
          replace e3 := Lib.hid e3
          cases g1 : decide (key.size < pth.size) with
          | true =>
            go_quiet (fail)
            go_wp2_with fail
            go_meet
            exact ⟨rfl, below_drewN (Below.refl _ _) _⟩
          | false =>
            go_quiet (fail)
            go_wp2_with fail
            go_meet
            exact ⟨rfl, below_drewN (Below.refl _ _) _⟩
      case rest =>
        obtain ⟨rfl, hbw⟩ := hcut
        obtain ⟨wd, hwd⟩ : ∃ wd, wd = wc := ⟨_, rfl⟩
        subst hwd
        go_upto_region 8 with fail
        go_cut [54] (fun v54 wz => v54 = .bool false ∧ wz = wd)
        case first =>
          rcases hspl.out with ⟨q, x, y, u, v, e1, e2, hlt, e3⟩ | ⟨u, e1, e3⟩
          · have g1 : ((c : Int) == (pth.size : Int)) = false := by have h1 := hsz1.out; rw [e1] at h1; simp at h1; simp; omega
            have g2 : decide (c < key.size) = true := by have h2 := hsz2.out; rw [e2] at h2; simp at h2; exact decide_eq_true (by omega)
            have g2' := of_decide_eq_true g2
            have g1' : ¬ c = pth.size := fun e => by rw [e] at g1; simp at g1
            replace e1 := Lib.hid e1
            replace e2 := Lib.hid e2
            replace e3 := Lib.hid e3
            go_wp2_with fail
            go_meet
            exact ⟨by simp, rfl⟩
          · have hck : c = key.size := by rw [e3]; exact hsz2.out
            subst hck
            replace e1 := Lib.hid e1
            replace e3 := Lib.hid e3
            go_wp2_with fail
            go_meet
            exact ⟨rfl, rfl⟩
        case rest =>
          obtain ⟨rfl, hwe⟩ := hcut
          subst hwe
          have hS4 := R.bel hS3.out hbw
          have hst4 := hst3.out.trans (R.stepB hS3.out hbw)
          have hfb4 := hfb3.out.bel hbw
          have hnb4 := hnb3.out.bel hbw
          have hat := Lib.hid fun (hp : n.path = bl pth) => art_at (key := key) (after := after) ok1.out ct1.out hn (hge.out hp)
          have hBl := hB.out s1 g wc n 0 hst4 (hm.out.imp_right (fun h => by omega)) hkX1.out (fun h0 => by rw [← (hst.out.same (hst.out.zero h0)).1]; exact hn) (by rw [hkd.out]; rfl) hps hS4 (by omega)
          rw [← hpth.out] at hBl
          unfold nV at hBl
          obtain ⟨nv, hnv⟩ : ∃ nv, nv = n.val := ⟨_, rfl⟩
          rw [← hnv] at hBl hnb4 hat
          replace hBl := Lib.hid hBl
          clear z0 z1 z2 z3 zq zf hbw
          obtain ⟨z0, z1, z2, z3, zq, zf⟩ := cells4 hnb4.cel
          obtain ⟨a0, a1, a2, aq, af⟩ := cells3 hfb4.cel
          replace hS4 := Lib.hid hS4
          replace hst4 := Lib.hid hst4
          replace hfb4 := Lib.hid hfb4
          replace hnb4 := Lib.hid hnb4
          replace hnv := Lib.hid hnv
          clear hS3 hst3 hfb3 hnb3
          have hfnd : Hid (∀ v, nv = some v → ¬ (after = true ∧ n.path = bl key) → g = false → n.path = bl pth → g = false ∧ some (pth, v) = cnext (sub s1.C n.path) key after) := Lib.hid fun v hv hne hg hp => by
            refine ⟨hg, ?_⟩
            rw [hat.out hp, hv]
            simp only [if_neg hne]
            rw [hp, bs_bl]
            rfl
          have hlow : Hid (∀ (s3 : RS) (g3 : Bool) (f : Option (Str × Str)), (nv = none ∨ (after = true ∧ n.path = bl key)) → (s3.d = s1.d → g = false → ∀ x, x ∈ s1.F → x.2.nb = n.nb → x.2.path = bl pth → g3 = false ∧ f = (belowC s1.C x.2.path x.2.kids 0).head?) → s3.d = s1.d → g = false → n.path = bl pth → g3 = false ∧ f = cnext (sub s1.C n.path) key after) := Lib.hid fun (s3 : RS) (g3 : Bool) (f : Option (Str × Str)) hv hh hd hg hp => by
            obtain ⟨x1, x2⟩ := hh hd hg (h, n) hn rfl hp
            refine ⟨x1, ?_⟩
            rw [hat.out hp, x2, belowC_zero]
            rcases hv with hv | hv
            · rw [hv]; rfl
            · cases nv with
              | none => rfl
              | some v => simp only [if_pos hv]; rfl
          cases nv with
          | none =>
            go_wp2_with fail
            refine hBl.out.mono ?_
            clear hBl
            rintro e w8 ⟨s3, g3, f, rfl, hS8, hst8, hk8, hex8⟩
            have hfb8 := hfb4.out.step R.h0 hst8
            obtain ⟨q1, q2, q3⟩ := R.fin hS.out (hst4.out.trans hst8) hS8 (Nat.le_succ _) hfb8.rol hfb8.cel (.string (fK f)) (.string (fX f)) (.bool f.isSome)
            replace q1 := Lib.hid q1
            obtain ⟨b0, b1, b2, bq, bf⟩ := cells3 hfb8.cel
            have hd8 := hst8.d
            have hm8 := hst8.m
            replace q2 := Lib.hid q2
            replace q3 := Lib.hid q3
            replace hex8 := Lib.hid hex8
            replace hfb8 := Lib.hid hfb8
            replace hst8 := Lib.hid hst8
            replace hS8 := Lib.hid hS8
            unfold fV
            go_wp2_with (refine bodyPost_ret (res_seek _ ?_ q1.out) rfl (Hid.out ?_); simp only [List.getElem?_toArray, List.getElem?_cons_succ, List.getElem?_cons_zero])
            refine Lib.hid ?_
            refine ⟨s3, g3, f, rfl, q2.out, q3.out, ⟨m_le hm.out hm8, hk8⟩, hX.out s3 g3 f hd8 (fun hd hg hp => hlow.out s3 g3 f (by simp) hex8.out hd hg hp)⟩
          | some v =>
            simp only [Option.getD_some, Option.isSome_some] at z1 z2
            cases after with
            | false =>
              obtain ⟨q1, q2, q3⟩ := R.fin hS.out hst4.out hS4.out (Nat.le_succ _) hfb4.out.rol hfb4.out.cel (.string pth) (.string v) (.bool true)
              replace q1 := Lib.hid q1
              replace q2 := Lib.hid q2
              replace q3 := Lib.hid q3
              clear hBl
              go_wp2_with (refine bodyPost_ret (res_seek _ ?_ q1.out) rfl (Hid.out ?_); simp only [List.getElem?_toArray, List.getElem?_cons_succ, List.getElem?_cons_zero])
              refine Lib.hid ?_
              refine ⟨s1, g, some (pth, v), rfl, q2.out, q3.out, ⟨m_le hm.out (Nat.le_refl _), hkX.out⟩, hX.out s1 g _ (Nat.le_refl _) (fun hd hg hp => hfnd.out v rfl (fun hh => by cases hh.1) hg hp)⟩
            | true =>
              by_cases he : pth = key
              · have hq : (ByteArray.toList pth == ByteArray.toList key) = true := by rw [he]; simp
                replace he := Lib.hid he
                simp only [Option.getD_some, Option.isSome_some] at hBl
                go_wp2_with fail
                refine hBl.out.mono ?_
                clear hBl
                rintro e w8 ⟨s3, g3, f, rfl, hS8, hst8, hk8, hex8⟩
                have hfb8 := hfb4.out.step R.h0 hst8
                obtain ⟨q1, q2, q3⟩ := R.fin hS.out (hst4.out.trans hst8) hS8 (Nat.le_succ _) hfb8.rol hfb8.cel (.string (fK f)) (.string (fX f)) (.bool f.isSome)
                replace q1 := Lib.hid q1
                obtain ⟨b0, b1, b2, bq, bf⟩ := cells3 hfb8.cel
                have hd8 := hst8.d
                have hm8 := hst8.m
                replace q2 := Lib.hid q2
                replace q3 := Lib.hid q3
                replace hex8 := Lib.hid hex8
                replace hfb8 := Lib.hid hfb8
                replace hst8 := Lib.hid hst8
                replace hS8 := Lib.hid hS8
                unfold fV
                go_wp2_with (refine bodyPost_ret (res_seek _ ?_ q1.out) rfl (Hid.out ?_); simp only [List.getElem?_toArray, List.getElem?_cons_succ, List.getElem?_cons_zero])
                refine Lib.hid ?_
                refine ⟨s3, g3, f, rfl, q2.out, q3.out, ⟨m_le hm.out hm8, hk8⟩, hX.out s3 g3 f hd8 (fun hd hg hp => hlow.out s3 g3 f (.inr ⟨by trivial, by rw [hp, he.out]⟩) hex8.out hd hg hp)⟩
              · have hq : (ByteArray.toList pth == ByteArray.toList key) = false := by
                  rw [ByteArray.toList_eq, ByteArray.toList_eq]
                  have : ¬ pth.data.toList = key.data.toList := fun e => he (bl_inj e)
                  simpa using this
                replace he := Lib.hid he
                obtain ⟨q1, q2, q3⟩ := R.fin hS.out hst4.out hS4.out (Nat.le_succ _) hfb4.out.rol hfb4.out.cel (.string pth) (.string v) (.bool true)
                replace q1 := Lib.hid q1
                replace q2 := Lib.hid q2
                replace q3 := Lib.hid q3
                clear hBl
                go_wp2_with (refine bodyPost_ret (res_seek _ ?_ q1.out) rfl (Hid.out ?_); simp only [List.getElem?_toArray, List.getElem?_cons_succ, List.getElem?_cons_zero])
                refine Lib.hid ?_
                refine ⟨s1, g, some (pth, v), rfl, q2.out, q3.out, ⟨m_le hm.out (Nat.le_refl _), hkX.out⟩, hX.out s1 g _ (Nat.le_refl _) (fun hd hg hp => hfnd.out v rfl (fun hh => he.out (bl_inj (hp.symm.trans hh.2))) hg hp)⟩
  · have hy1 := hfb0.out.step R.h0 hst
    have hb2 : Below w1.heap.size w1 (w1.alloc (.cells #[.string ⟨#[]⟩, .string ⟨#[]⟩, .bool false, .pointer none] 75)) := (Below.refl _ _).alloc (Nat.le_refl _) _
    have hfb2 := hy1.bel hb2
    have hS2 := R.bel hS1 hb2
    have hst2 := (hst.trans (R.stepB hS1 hb2)).bel R hS.out hBe.out
    go_upto_region 2 with fail
    generalize w1.alloc (.cells #[.string ⟨#[]⟩, .string ⟨#[]⟩, .bool false, .pointer none] 75) = w2 at *
    obtain ⟨y0, y1, y2, yq, yf⟩ := cells3 hfb2.cel
    obtain ⟨q1, q2, q3⟩ := R.fin hS.out hst2 hS2 (Nat.le_succ _) hfb2.rol hfb2.cel (.string ⟨#[]⟩) (.string ⟨#[]⟩) (.bool false)
    replace q1 := Lib.hid q1
    replace q2 := Lib.hid q2
    replace q3 := Lib.hid q3
    replace hst := Lib.hid hst
    replace hm := Lib.hid hm
    clear hb2 hfb2 hS2 hst2 hS1 hy1
    go_wp2_with (refine bodyPost_ret (res_seek _ ?_ q1.out) rfl (Hid.out ?_); simp only [List.getElem?_toArray, List.getElem?_cons_succ, List.getElem?_cons_zero])
    refine Lib.hid ?_
    refine ⟨s1, true, none, rfl, q2.out, q3.out, ⟨m_le hm.out (Nat.le_refl _), Nat.le_trans hk1 (Nat.le_trans hX1 hXX)⟩, fun hd hg m hmem hp => ?_⟩
    obtain ⟨e1, _, _⟩ := hst.out.same hd
    exact absurd rfl (hn _ (by rw [e1]; exact hmem))
end
end Go.Proofs.YtmhlokomlngdmaaGreat
