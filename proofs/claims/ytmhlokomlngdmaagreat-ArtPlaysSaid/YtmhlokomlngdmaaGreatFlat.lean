/- How a slice that came in reads, where its elements are flat: integers, bools, strings, and structs of these: each cell by its kind. No program in sight. -/
import Derived.Below
import Derived.Deep.Slices
import Derived.ProofKit
namespace Go.Proofs.YtmhlokomlngdmaaGreat
open Go.ChangeShapes Go.WideShapes Go.Deep
/-- The kind of a cell: an integer, a bool (true), a string (false). -/
abbrev Kd := Sum IntKind Bool
def Kd.Ok : Kd → Value → Prop
  | .inl k, v => ∃ n, v = .int k n ∧ (Lit.int k n).wf = true
  | .inr true, v => ∃ b, v = .bool b
  | .inr false, v => ∃ s : ByteArray, v = .string s ∧ s.size ≤ maxLen
def AllOk : List Kd → List Value → Prop
  | [], [] => True
  | k :: ks, v :: vs => k.Ok v ∧ AllOk ks vs
  | _, _ => False
theorem AllOk.append : ∀ {ks ks' : List Kd} {vs vs' : List Value}, AllOk ks vs → AllOk ks' vs' → AllOk (ks ++ ks') (vs ++ vs')
  | [], _, [], _, _, h => h
  | [], _, _ :: _, _, h, _ => h.elim
  | _ :: _, _, [], _, h, _ => h.elim
  | _ :: _, _, _ :: _, _, h, h' => ⟨h.1, AllOk.append h.2 h'⟩
theorem AllOk.of1 {k0 : Kd} : ∀ {r : List Value}, AllOk [k0] r → ∃ v0, r = [v0] ∧ k0.Ok v0
  | [v0], h => ⟨v0, rfl, h.1⟩
  | [], h => absurd h (by simp [AllOk])
  | _ :: _ :: _, h => absurd h (by simp [AllOk])
theorem AllOk.of2 {k0 k1 : Kd} : ∀ {r : List Value}, AllOk [k0, k1] r → ∃ v0 v1, r = [v0, v1] ∧ k0.Ok v0 ∧ k1.Ok v1
  | [v0, v1], h => ⟨v0, v1, rfl, h.1, h.2.1⟩
  | [], h => absurd h (by simp [AllOk])
  | [v0], h => absurd h (by simp [AllOk])
  | _ :: _ :: _ :: _, h => absurd h (by simp [AllOk])
theorem AllOk.of3 {k0 k1 k2 : Kd} : ∀ {r : List Value}, AllOk [k0, k1, k2] r → ∃ v0 v1 v2, r = [v0, v1, v2] ∧ k0.Ok v0 ∧ k1.Ok v1 ∧ k2.Ok v2
  | [v0, v1, v2], h => ⟨v0, v1, v2, rfl, h.1, h.2.1, h.2.2.1⟩
  | [], h => absurd h (by simp [AllOk])
  | [v0], h => absurd h (by simp [AllOk])
  | [v0, v1], h => absurd h (by simp [AllOk])
  | _ :: _ :: _ :: _ :: _, h => absurd h (by simp [AllOk])
theorem AllOk.of4 {k0 k1 k2 k3 : Kd} : ∀ {r : List Value}, AllOk [k0, k1, k2, k3] r → ∃ v0 v1 v2 v3, r = [v0, v1, v2, v3] ∧ k0.Ok v0 ∧ k1.Ok v1 ∧ k2.Ok v2 ∧ k3.Ok v3
  | [v0, v1, v2, v3], h => ⟨v0, v1, v2, v3, rfl, h.1, h.2.1, h.2.2.1, h.2.2.2.1⟩
  | [], h => absurd h (by simp [AllOk])
  | [v0], h => absurd h (by simp [AllOk])
  | [v0, v1], h => absurd h (by simp [AllOk])
  | [v0, v1, v2], h => absurd h (by simp [AllOk])
  | _ :: _ :: _ :: _ :: _ :: _, h => absurd h (by simp [AllOk])
theorem AllOk.of5 {k0 k1 k2 k3 k4 : Kd} : ∀ {r : List Value}, AllOk [k0, k1, k2, k3, k4] r → ∃ v0 v1 v2 v3 v4, r = [v0, v1, v2, v3, v4] ∧ k0.Ok v0 ∧ k1.Ok v1 ∧ k2.Ok v2 ∧ k3.Ok v3 ∧ k4.Ok v4
  | [v0, v1, v2, v3, v4], h => ⟨v0, v1, v2, v3, v4, rfl, h.1, h.2.1, h.2.2.1, h.2.2.2.1, h.2.2.2.2.1⟩
  | [], h => absurd h (by simp [AllOk])
  | [v0], h => absurd h (by simp [AllOk])
  | [v0, v1], h => absurd h (by simp [AllOk])
  | [v0, v1, v2], h => absurd h (by simp [AllOk])
  | [v0, v1, v2, v3], h => absurd h (by simp [AllOk])
  | _ :: _ :: _ :: _ :: _ :: _ :: _, h => absurd h (by simp [AllOk])
theorem AllOk.of6 {k0 k1 k2 k3 k4 k5 : Kd} : ∀ {r : List Value}, AllOk [k0, k1, k2, k3, k4, k5] r → ∃ v0 v1 v2 v3 v4 v5, r = [v0, v1, v2, v3, v4, v5] ∧ k0.Ok v0 ∧ k1.Ok v1 ∧ k2.Ok v2 ∧ k3.Ok v3 ∧ k4.Ok v4 ∧ k5.Ok v5
  | [v0, v1, v2, v3, v4, v5], h => ⟨v0, v1, v2, v3, v4, v5, rfl, h.1, h.2.1, h.2.2.1, h.2.2.2.1, h.2.2.2.2.1, h.2.2.2.2.2.1⟩
  | [], h => absurd h (by simp [AllOk])
  | [v0], h => absurd h (by simp [AllOk])
  | [v0, v1], h => absurd h (by simp [AllOk])
  | [v0, v1, v2], h => absurd h (by simp [AllOk])
  | [v0, v1, v2, v3], h => absurd h (by simp [AllOk])
  | [v0, v1, v2, v3, v4], h => absurd h (by simp [AllOk])
  | _ :: _ :: _ :: _ :: _ :: _ :: _ :: _, h => absurd h (by simp [AllOk])
theorem AllOk.of7 {k0 k1 k2 k3 k4 k5 k6 : Kd} : ∀ {r : List Value}, AllOk [k0, k1, k2, k3, k4, k5, k6] r → ∃ v0 v1 v2 v3 v4 v5 v6, r = [v0, v1, v2, v3, v4, v5, v6] ∧ k0.Ok v0 ∧ k1.Ok v1 ∧ k2.Ok v2 ∧ k3.Ok v3 ∧ k4.Ok v4 ∧ k5.Ok v5 ∧ k6.Ok v6
  | [v0, v1, v2, v3, v4, v5, v6], h => ⟨v0, v1, v2, v3, v4, v5, v6, rfl, h.1, h.2.1, h.2.2.1, h.2.2.2.1, h.2.2.2.2.1, h.2.2.2.2.2.1, h.2.2.2.2.2.2.1⟩
  | [], h => absurd h (by simp [AllOk])
  | [v0], h => absurd h (by simp [AllOk])
  | [v0, v1], h => absurd h (by simp [AllOk])
  | [v0, v1, v2], h => absurd h (by simp [AllOk])
  | [v0, v1, v2, v3], h => absurd h (by simp [AllOk])
  | [v0, v1, v2, v3, v4], h => absurd h (by simp [AllOk])
  | [v0, v1, v2, v3, v4, v5], h => absurd h (by simp [AllOk])
  | _ :: _ :: _ :: _ :: _ :: _ :: _ :: _ :: _, h => absurd h (by simp [AllOk])
def flatFold (rec_ : TypeId → Option (List Kd)) (P : Program) : List Field → List Kd → Option (List Kd)
  | [], acc => some acc
  | f :: fs, acc =>
    if f.offset = acc.length then
      match rec_ f.type with
      | some ks => if P.cellsOf f.type = ks.length then flatFold rec_ P fs (acc ++ ks) else none
      | none => none
    else none
def flatOf (P : Program) : Nat → TypeId → Option (List Kd)
  | 0, _ => none
  | n + 1, t =>
    match P.underlying t with
    | some (.int k) => some [.inl k]
    | some .bool => some [.inr true]
    | some .string => some [.inr false]
    | some (.struct fs) => flatFold (flatOf P n) P fs.toList []
    | _ => none
section
variable {H : Type} {enc : TypeId × Value → H} {P : Program} {w : World} {base : Nat} {spare : Nat → Bool} {held : Bool}
theorem flatFold_le {rec_ : TypeId → Option (List Kd)} {ks : List Kd} : ∀ (fs : List Field) (acc : List Kd), flatFold rec_ P fs acc = some ks → acc.length ≤ ks.length
  | [], acc, h => by simp only [flatFold, Option.some.injEq] at h; rw [h]; exact Nat.le_refl _
  | f :: fs, acc, h => by
    simp only [flatFold] at h
    split at h
    · split at h
      · split at h
        · have := flatFold_le fs _ h
          simp at this; omega
        · cases h
      · cases h
    · cases h
theorem trod_flatFold {n m : Nat} {cs : List Value} {fs0 : Array Field} {xs : List (DataW H × List MemPlace)}
    (ih : ∀ t ks cs x, flatOf P n t = some ks → DataW.trod enc P w base spare held m t cs = some x → cs.length = ks.length → AllOk ks cs)
    (hx : ∀ (i : Nat) (f : Field), fs0[i]? = some f → DataW.trod enc P w base spare held m f.type ((cs.drop f.offset).take (P.cellsOf f.type)) = xs[i]?) (hlen : xs.length = fs0.size) :
    ∀ (fs : List Field) (i : Nat) (acc ks : List Kd), fs0.toList.drop i = fs → flatFold (flatOf P n) P fs acc = some ks → ks.length ≤ cs.length → acc.length ≤ cs.length → AllOk acc (cs.take acc.length) → AllOk ks (cs.take ks.length) := by
  intro fs
  induction fs with
  | nil =>
    intro i acc ks _ h _ _ ha
    simp only [flatFold, Option.some.injEq] at h
    subst h
    exact ha
  | cons f fs ihf =>
    intro i acc ks hd h hk hacc ha
    simp only [flatFold] at h
    split at h
    · rename_i hoff
      split at h
      · rename_i ks1 hks1
        split at h
        · rename_i hcel
          have hi : fs0[i]? = some f := by
            have h0 : (fs0.toList.drop i)[0]? = some f := by rw [hd]; rfl
            rw [List.getElem?_drop] at h0
            simpa using h0
          have hlt : i < fs0.size := by
            rcases Nat.lt_or_ge i fs0.size with h1 | h1
            · exact h1
            · rw [Array.getElem?_eq_none h1] at hi; cases hi
          have h1 := hx i f hi
          rw [List.getElem?_eq_getElem (by omega)] at h1
          have hmon : (acc ++ ks1).length ≤ ks.length := by
            exact flatFold_le _ _ h
          have hl1 : (acc ++ ks1).length ≤ cs.length := by omega
          rw [hoff, hcel] at h1
          have h2 := ih _ _ _ _ hks1 h1 (by simp at hl1 ⊢; omega)
          refine ihf (i + 1) (acc ++ ks1) ks ?_ h hk hl1 ?_
          · have : fs0.toList.drop (i + 1) = (fs0.toList.drop i).drop 1 := by rw [List.drop_drop]
            rw [this, hd]; rfl
          · rw [List.length_append, List.take_add]
            exact ha.append h2
        · cases h
      · cases h
    · cases h
theorem trod_flat : ∀ (n m : Nat) (t : TypeId) (ks : List Kd) (cs : List Value) (x : DataW H × List MemPlace), flatOf P n t = some ks → DataW.trod enc P w base spare held m t cs = some x → cs.length = ks.length → AllOk ks cs := by
  intro n
  induction n with
  | zero => intro m t ks cs x h; simp [flatOf] at h
  | succ n ih =>
    intro m t ks cs x h hx hl
    unfold flatOf at h
    split at h
    · rename_i k ht
      simp only [Option.some.injEq] at h; subst h
      obtain ⟨z, rfl, _, hw⟩ := DataW.trod_int ht hx
      exact ⟨⟨z, rfl, hw⟩, trivial⟩
    · rename_i ht
      simp only [Option.some.injEq] at h; subst h
      obtain ⟨b, rfl, _⟩ := DataW.trod_bool ht hx
      exact ⟨⟨b, rfl⟩, trivial⟩
    · rename_i ht
      simp only [Option.some.injEq] at h; subst h
      obtain ⟨s, rfl, _, hs⟩ := DataW.trod_string ht hx
      exact ⟨⟨s, rfl, hs⟩, trivial⟩
    · rename_i fs ht
      obtain ⟨xs, m', _, _, _, hlen, hf⟩ := DataW.trod_struct ht hx
      have := trod_flatFold (cs := cs) (ks := ks) (acc := []) (fs := fs.toList) (i := 0) (fun t ks cs x h1 h2 h3 => ih m' t ks cs x h1 h2 h3) hf hlen rfl h (by omega) (by simp) (by simp [AllOk])
      rwa [List.take_of_length_le (by omega)] at this
    · cases h
/-- What the walk is told of a slice of flat elements that came in. 'rows': its elements, each a list of cells. -/
def IsFlat (ks : List Kd) (w : World) (a : Option Addr) (len : Nat) (rows : List (List Value)) : Prop :=
  (len = 0 ∧ rows = []) ∨
  ∃ b off, a = some ⟨b, off, none⟩ ∧ len ≤ maxLen ∧ rows.length = len ∧ b < w.heap.size ∧ ∀ i, i < len → AllOk ks (rows.getD i []) ∧ ∀ j, j < ks.length → w.cell? ⟨b, off + (i * ks.length + j), none⟩ = (rows.getD i [])[j]?
theorem AllOk.length : ∀ {ks : List Kd} {vs : List Value}, AllOk ks vs → vs.length = ks.length
  | [], [], _ => rfl
  | [], _ :: _, h => h.elim
  | _ :: _, [], h => h.elim
  | _ :: _, _ :: _, h => by simp [AllOk.length h.2]
theorem isFlat_of {fuel : Nat} {t e : TypeId} {n : Nat} {ks : List Kd} {a : Option Addr} {len cap : Nat} {x : DataW H × List MemPlace} (ht : P.underlying t = some (.slice e)) (hk : flatOf P n e = some ks) (hc : P.cellsOf e = ks.length) (h0 : 0 < ks.length)
    (h : DataW.trod enc P w base spare held fuel t [.slice a len cap] = some x) : ∃ rows, IsFlat ks w a len rows := by
  rcases open_slice ht h with ⟨hcs, _⟩ | ⟨a', len', cap', m, n', D, Pl, hcs, hb, hl, hm, hmm, _, hx⟩
  · simp at hcs
    obtain ⟨rfl, rfl, rfl⟩ := hcs
    exact ⟨[], .inl ⟨rfl, rfl⟩⟩
  simp at hcs
  obtain ⟨rfl, rfl, rfl⟩ := hcs
  have hle : len ≤ m := by rw [hmm]; split <;> omega
  rcases Nat.eq_zero_or_pos len with rfl | hpos
  · exact ⟨[], .inl ⟨rfl, rfl⟩⟩
  obtain ⟨C, hC⟩ := choose_lt (α := List Value) (p := fun i cs' => w.cells? base (a'.add (i * P.cellsOf e)) (P.cellsOf e) = some cs' ∧ DataW.trod enc P w base spare held n' e cs' = some (D i, Pl i)) hx
  rw [hc] at hC
  have h00 : ∃ v, w.cell? a' = some v := by
    obtain ⟨h1, h2⟩ := hC 0 (by omega)
    obtain ⟨_, hlen, hcell⟩ := World.cells?_some h1
    have := hcell 0 h0
    rw [List.getElem?_eq_getElem (by omega)] at this
    simp only [Nat.zero_mul, Addr.add, if_true] at this
    exact ⟨_, this⟩
  obtain ⟨v, hv⟩ := h00
  have hsp : a'.spot = none := by
    unfold World.cell? at hv
    split at hv
    · split at hv
      · cases hv
      · rename_i hh; simpa using hh
    · cases hv
  obtain ⟨b, off, sp⟩ := a'
  simp only at hsp
  subst hsp
  refine ⟨(List.range len).map C, .inr ⟨b, off, rfl, by omega, by simp, ?_, ?_⟩⟩
  · rcases Nat.lt_or_ge b w.heap.size with h1 | h1
    · exact h1
    · unfold World.cell? at hv
      rw [Array.getElem?_eq_none h1] at hv
      cases hv
  intro i hi
  obtain ⟨h1, h2⟩ := hC i (by omega)
  obtain ⟨_, hlen, hcell⟩ := World.cells?_some h1
  have hr : ((List.range len).map C).getD i [] = C i := by simp [List.getD, hi]
  rw [hr]
  refine ⟨trod_flat _ _ _ _ _ _ hk h2 hlen, fun j hj => ?_⟩
  have := hcell j hj
  rw [add_add] at this
  rw [← this]
  congr 1
  unfold Addr.add
  by_cases hz : i * ks.length + j = 0
  · simp [hz]
  · rw [if_neg hz]
end
theorem IsFlat.below {ks : List Kd} {w w' : World} {a : Option Addr} {len : Nat} {rows : List (List Value)} (h : IsFlat ks w a len rows) (hb : RowKit.Below w.heap.size w w') : IsFlat ks w' a len rows := by
  rcases h with h | ⟨b, off, h1, h2, h3, h4, h5⟩
  · exact .inl h
  · exact .inr ⟨b, off, h1, h2, h3, by have := hb.size; omega, fun i hi => ⟨(h5 i hi).1, fun j hj => by rw [hb.cell (p := ⟨b, _, none⟩) h4]; exact (h5 i hi).2 j hj⟩⟩
theorem byte_row {w : World} {s : Option Addr} {len : Nat} {rows : List (List Value)} (hr : IsFlat [.inl .u8] w s len rows) :
    ∀ k, k < len → ∃ b off x, s = some ⟨b, off, none⟩ ∧ w.cell? ⟨b, off + k, none⟩ = some (.int .u8 x) ∧ 0 ≤ x ∧ x ≤ 255 := by
  intro k hk
  rcases hr with ⟨h0, _⟩ | ⟨b, off, hs, _, _, hb, hc⟩
  · omega
  obtain ⟨h1, h2⟩ := hc k hk
  have h3 := h2 0 (by simp)
  generalize rows.getD k [] = r at *
  obtain ⟨_, rfl, ⟨n, rfl, hn⟩⟩ := h1.of1
  refine ⟨b, off, n, hs, by simpa using h3, ?_⟩
  simp [Lit.wf, IntKind.min, IntKind.max, IntKind.signed, IntKind.bits] at hn
  omega
end Go.Proofs.YtmhlokomlngdmaaGreat
