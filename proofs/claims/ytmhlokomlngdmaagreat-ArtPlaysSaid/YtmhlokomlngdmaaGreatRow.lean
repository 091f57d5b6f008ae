/- Slices of the call's own whose elements have k cells each: reading, sources of an append, appending. No program in sight. -/
import Derived.Test.YtmhlokomlngdmaaGreatLib
import Derived.Maps.AppendAt
import Derived.Deep.RegionLaw
namespace Go.Proofs.YtmhlokomlngdmaaGreat
open Go.RowKit
theorem take_toArray {L : List Value} {n : Nat} (h : L.length = n) (r : List Value) : (L ++ r).take n = L := by
  subst h
  exact List.take_left
theorem Upd.via {F T : List Nat} {w0 w w1 : World} (h : Upd F w0 w) (hu : Upd T w w1) (hT : ∀ k, k ∈ T → k ∈ F ∨ w0.heap.size ≤ k) : Upd F w0 w1 :=
  ⟨hu.os.trans h.os, hu.tape.trans h.tape, hu.output.trans h.output, Nat.le_trans h.size hu.size, fun k hk hn => (hu.block k (Nat.lt_of_lt_of_le hk h.size) (fun hh => by
    rcases hT k hh with h1 | h1
    · exact hn h1
    · omega)).trans (h.block k hk hn)⟩
/-- A way's end that is none but the normal one: for a region that draws in a function that defers. -/
def OnlyN (Q : Exit → Act → World → Prop) (x : Exit) (a : Act) (w : World) : Prop := match x with
  | .normal => Q .normal a w
  | _ => False
theorem onlyN {P : Program} {c : Code} {Q : Exit → Act → World → Prop} {a : Act} {w : World} (h : Code.wp P c (OnlyN Q) a w) : Code.wp P c Q a w :=
  Code.wp_mono (fun x a w hx => by
    cases x <;> first | exact hx | exact hx.elim) h
/-- What an append takes from: m elements of k cells. -/
def SrcOf (w : World) (u : Value) (m k : Nat) (news : List Value) : Prop :=
  news.length = m * k ∧ (∀ y ∈ news, y.oneCell' = true) ∧ ((u = .slice none 0 0 ∧ m = 0) ∨ ∃ ad c, u = .slice (some ad) m c ∧ ∀ j y, news[j]? = some y → w.cell? (ad.add j) = some y)
/-- v is a slice of the call's own (its block lies at base or beyond) that holds L. -/
def Row {α : Type} (base : Nat) (e : TypeId) (k : Nat) (f : α → List Value) (w : World) (v : Value) (L : List α) : Prop :=
  (∀ x, (f x).length = k) ∧ (∀ x, ∀ y ∈ f x, y.oneCell' = true) ∧ w.ownsRow base e k v L.length (L.flatMap f)
section
variable {α : Type} {base k : Nat} {e : TypeId} {f : α → List Value} {w w' : World} {v : Value} {L : List α}
theorem flat_len (hf : ∀ x, (f x).length = k) (L : List α) : (L.flatMap f).length = L.length * k := by
  induction L with
  | nil => simp
  | cons a l ih => rw [List.flatMap_cons, List.length_append, ih, hf, List.length_cons, Nat.add_mul, Nat.one_mul, Nat.add_comm]
theorem flat_get (hf : ∀ x, (f x).length = k) : ∀ (L : List α) (i : Nat) (x : α), L[i]? = some x → ∀ j y, (f x)[j]? = some y → (L.flatMap f)[i * k + j]? = some y
  | [], i, x, h, _, _, _ => by simp at h
  | a :: l, 0, x, h, j, y, hy => by
    simp at h
    subst h
    rw [Nat.zero_mul, Nat.zero_add, List.flatMap_cons, List.getElem?_append_left (List.getElem?_eq_some_iff.1 hy).1]
    exact hy
  | a :: l, i + 1, x, h, j, y, hy => by
    have := flat_get hf l i x (by simpa using h) j y hy
    rw [List.flatMap_cons, List.getElem?_append_right (by rw [hf, Nat.add_mul]; omega), hf, show (i + 1) * k + j - k = i * k + j by rw [Nat.add_mul]; omega]
    exact this
theorem flat_one (h1 : ∀ x, ∀ y ∈ f x, y.oneCell' = true) (L : List α) : ∀ y ∈ L.flatMap f, y.oneCell' = true := by
  intro y hy
  obtain ⟨x, _, hx⟩ := List.mem_flatMap.1 hy
  exact h1 x y hx
theorem Row.nil (hf : ∀ x, (f x).length = k) (h1 : ∀ x, ∀ y ∈ f x, y.oneCell' = true) (base : Nat) (e : TypeId) (w : World) : Row base e k f w (.slice none 0 0) [] := ⟨hf, h1, World.ownsRow_nil w base e k⟩
theorem Row.lt (h : Row base e k f w v L) : ∀ b, v.ownBlock = some b → base ≤ b ∧ b < w.heap.size := h.2.2.lt
theorem Row.shape (h : Row base e k f w v L) : ∃ a c, v = .slice a L.length c := by
  rcases h.2.2.2 with ⟨rfl, h2⟩ | ⟨g, cap, cur, rfl, _⟩
  · exact ⟨_, _, by rw [h2]⟩
  · exact ⟨_, _, rfl⟩
theorem Row.cases (h : Row base e k f w v L) : (v = .slice none 0 0 ∧ L = []) ∨ ∃ b cap, v = .slice (some ⟨b, 0, none⟩) L.length cap ∧ base ≤ b ∧ b < w.heap.size ∧ v.ownBlock = some b ∧ L.length ≤ cap ∧ cap ≤ maxLen ∧
    (∀ j y, (L.flatMap f)[j]? = some y → w.cell? ⟨b, j, none⟩ = some y) ∧ ∀ j, w.frozen? ⟨b, j, none⟩ = false := by
  have hl : ∀ g, v.ownBlock = some g → _ := fun g hg => h.2.2.cells (g := g) hg
  rcases h.2.2.2 with ⟨rfl, h2⟩ | ⟨g, cap, cur, rfl, h3, h4, h5, h6, h7, h8⟩
  · exact .inl ⟨rfl, List.length_eq_zero_iff.1 h2⟩
  · refine .inr ⟨g, cap, rfl, h3, heap_lt h4, rfl, h5, h6, fun j y hj => ?_, frozen_of_heap h4⟩
    have := hl g rfl j y hj
    rwa [Addr.add_lit, Nat.zero_add] at this
/-- An element: where its cells stand. -/
theorem Row.at (h : Row base e k f w v L) {i : Nat} {x : α} (hi : L[i]? = some x) : ∃ b cap, v = .slice (some ⟨b, 0, none⟩) L.length cap ∧ v.ownBlock = some b ∧ base ≤ b ∧ b < w.heap.size ∧ L.length ≤ cap ∧ cap ≤ maxLen ∧ i < L.length ∧
    ∀ j y, (f x)[j]? = some y → w.cell? ⟨b, i * k + j, none⟩ = some y := by
  rcases h.cases with ⟨_, rfl⟩ | ⟨b, cap, h1, h2, h3, h4, h5, h6, h7, _⟩
  · simp at hi
  · exact ⟨b, cap, h1, h4, h2, h3, h5, h6, (List.getElem?_eq_some_iff.1 hi).1, fun j y hy => h7 _ _ (flat_get h.1 L i x hi j y hy)⟩
theorem Row.upd {S : List Nat} (h : Row base e k f w v L) (hu : Upd S w w') (hS : ∀ b, v.ownBlock = some b → b ∉ S) : Row base e k f w' v L := by
  refine ⟨h.1, h.2.1, h.2.2.1, ?_⟩
  rcases h.2.2.2 with h2 | ⟨g, cap, cur, rfl, h3, h4, h5⟩
  · exact .inl h2
  · exact .inr ⟨g, cap, cur, rfl, h3, hu.heap h4 (hS g rfl), h5⟩
theorem Row.below (h : Row base e k f w v L) (hb : Below w.heap.size w w') : Row base e k f w' v L := h.upd (Upd.of_below (S := []) hb) (by simp)
theorem Row.rebase {base' : Nat} (h : Row base e k f w v L) (hb : ∀ b, v.ownBlock = some b → base' ≤ b) : Row base' e k f w v L := by
  refine ⟨h.1, h.2.1, h.2.2.1, ?_⟩
  rcases h.2.2.2 with h2 | ⟨g, cap, cur, rfl, h3, h4⟩
  · exact .inl h2
  · exact .inr ⟨g, cap, cur, rfl, hb g rfl, h4⟩
theorem Row.src (h : Row base e k f w v L) : SrcOf w v L.length k (L.flatMap f) := by
  refine ⟨flat_len h.1 L, flat_one h.2.1 L, ?_⟩
  rcases h.cases with ⟨rfl, rfl⟩ | ⟨b, cap, rfl, _, _, _, _, _, h7, _⟩
  · exact .inl ⟨rfl, rfl⟩
  · exact .inr ⟨_, cap, rfl, fun j y hj => by rw [Addr.add_lit, Nat.zero_add]; exact h7 j y hj⟩
/-- 's[i:]', as the model spells it. -/
theorem Row.tail {b n cap : Nat} (h : Row base e k f w (.slice (some ⟨b, 0, none⟩) n cap) L) (i : Nat) (hi : i ≤ L.length) :
    SrcOf w (.slice (if cap = i then some (⟨b, 0, none⟩ : Addr) else some ⟨b, i * k, none⟩) (L.length - i) (cap - i)) (L.drop i).length k ((L.drop i).flatMap f) := by
  rw [show (L.drop i).length = L.length - i from List.length_drop]
  refine ⟨by rw [flat_len h.1, List.length_drop], flat_one h.2.1 _, .inr ?_⟩
  rcases h.cases with ⟨h0, _⟩ | ⟨b', cap', h0, _, _, _, h5, _, h7, _⟩
  · cases h0
  · injection h0 with h0 h01 h02
    injection h0 with h0
    injection h0 with h0
    subst h0 h02
    by_cases hc : cap = i
    · have : L.drop i = [] := by rw [List.drop_eq_nil_iff]; omega
      exact ⟨_, _, by rw [if_pos hc], fun j y hj => by rw [this] at hj; simp at hj⟩
    · refine ⟨_, _, by rw [if_neg hc], fun j y hj => ?_⟩
      rw [Addr.add_lit]
      refine h7 _ _ ?_
      have hsp : L.flatMap f = (L.take i).flatMap f ++ (L.drop i).flatMap f := by rw [← List.flatMap_append, List.take_append_drop]
      rw [hsp, List.getElem?_append_right (by rw [flat_len h.1, List.length_take, Nat.min_eq_left hi]; omega), flat_len h.1, List.length_take, Nat.min_eq_left hi, show i * k + j - i * k = j by omega]
      exact hj
/-- 's[:i]'. -/
theorem Row.head {b n cap : Nat} (h : Row base e k f w (.slice (some ⟨b, 0, none⟩) n cap) L) (i c : Nat) (hi : i ≤ L.length) : SrcOf w (.slice (some ⟨b, 0, none⟩) i c) i k ((L.take i).flatMap f) := by
  refine ⟨by rw [flat_len h.1, List.length_take, Nat.min_eq_left hi], flat_one h.2.1 _, .inr ⟨_, _, rfl, fun j y hj => ?_⟩⟩
  rw [Addr.add_lit, Nat.zero_add]
  rcases h.cases with ⟨h0, _⟩ | ⟨b', cap', h0, _, _, _, h5, _, h7, _⟩
  · cases h0
  · injection h0 with h0 h01 h02
    injection h0 with h0
    injection h0 with h0
    subst h0 h02
    refine h7 _ _ ?_
    have hsp : L.flatMap f = (L.take i).flatMap f ++ (L.drop i).flatMap f := by rw [← List.flatMap_append, List.take_append_drop]
    rw [hsp, List.getElem?_append_left (List.getElem?_eq_some_iff.1 hj).1]
    exact hj
theorem SrcOf.upd {S : List Nat} {b o c m : Nat} {news : List Value} (h : SrcOf w (.slice (some ⟨b, o, none⟩) m c) m k news) (hu : Upd S w w') (hb : b ∉ S) : SrcOf w' (.slice (some ⟨b, o, none⟩) m c) m k news := by
  refine ⟨h.1, h.2.1, ?_⟩
  rcases h.2.2 with h0 | ⟨ad, c', h0, h1⟩
  · exact .inl h0
  · injection h0 with h0 _ h02
    injection h0 with h0
    subst h0 h02
    refine .inr ⟨_, _, rfl, fun j y hj => hu.cell (h1 j y hj) (by rw [Addr.add_lit]; exact hb)⟩
theorem SrcOf.below {u : Value} {m : Nat} {news : List Value} (h : SrcOf w u m k news) (hb : Below w.heap.size w w') : SrcOf w' u m k news := by
  refine ⟨h.1, h.2.1, ?_⟩
  rcases h.2.2 with h0 | ⟨ad, c, h0, h1⟩
  · exact .inl h0
  · exact .inr ⟨ad, c, h0, fun j y hj => by rw [hb.cell (block_lt_of_cell (h1 j y hj))]; exact h1 j y hj⟩
/-- One element in a new block. -/
theorem SrcOf.one (w : World) (t : TypeId) (xs : List Value) (h1 : ∀ y ∈ xs, y.oneCell' = true) : SrcOf (w.alloc (.cells xs.toArray t)) (.slice (some ⟨w.heap.size, 0, none⟩) 1 1) 1 xs.length xs := by
  refine ⟨by omega, h1, .inr ⟨_, _, rfl, fun j y hj => ?_⟩⟩
  rw [Addr.add_lit, Nat.zero_add, cell_of_heap (heap_alloc_new _ _)]
  simpa using hj
theorem Upd.of_grown (hg : w.grownBy w' v.ownBlock) : Upd v.ownBlock.toList w w' :=
  ⟨hg.os, hg.tape, hg.output, hg.size, fun j hj hn => hg.block j hj (fun e => hn (by rw [← e]; simp))⟩
theorem mem_own {v : Value} {b : Nat} (h : b ∈ v.ownBlock.toList) : v.ownBlock = some b := by
  cases hq : v.ownBlock <;> rw [hq] at h <;> simp at h
  rw [h]
end
section
variable {P : Program} (w : World)
theorem run_append_src (base : Nat) (t ty e : TypeId) (i : TypeInfo) (z : Value) (size bytes : Nat) (ht : P.underlying t = some (.slice e)) (hi : P.info? e = some i) (hz : i.zero = some z)
    (hsize : i.size = size) (hby : i.bytes = bytes) (hzs : z.cells.size = size) (hsz : 0 < size)
    (v : Value) (n : Nat) (xs : List Value) (hown : w.ownsRow base e size v n xs) (u : Value) (m : Nat) (news : List Value) (hs : SrcOf w u m size news)
    (h63 : n + m ≤ maxLen) (hbytes : (n + m) * bytes ≤ 140737488355328) (hbase : base ≤ w.heap.size) :
    ∃ v' w', (Builtin.append_ #[t, t] ty #[v, u]).run P w = .ok v' w' ∧ w'.ownsRow base e size v' (n + m) (xs ++ news) ∧ w.grownBy w' v.ownBlock ∧ (v'.ownBlock = v.ownBlock ∨ v'.ownBlock = some w.heap.size) := by
  obtain ⟨hl, h1, ⟨rfl, rfl⟩ | ⟨ad, c, rfl, hc⟩⟩ := hs
  · obtain rfl : news = [] := List.eq_nil_of_length_eq_zero (by simpa using hl)
    refine ⟨v, w, ?_, by simpa using hown, ⟨rfl, rfl, rfl, Nat.le_refl _, fun _ _ _ => rfl⟩, .inl rfl⟩
    rcases hown.2 with ⟨rfl, rfl⟩ | ⟨g, cap, cur, rfl, _, hg, hnc, _⟩
    · subst hsize
      simp [Builtin.append_, run_underlying ht, sizeOf, typeInfo, hi, Builtin.lenOf, Builtin.firstCells]
    · subst hsize
      simp [Builtin.append_, run_underlying ht, sizeOf, typeInfo, hi, Builtin.lenOf, Builtin.firstCells, loadCells, hnc, storeCells]
  · obtain ⟨v', w', hr, h2, h3, _, h5⟩ := run_append_own_at (P := P) w base t ty e i z size bytes ht hi hz hsize hby hzs hsz v n xs hown ad m c news hl hc h1 h63 hbytes hbase
    exact ⟨v', w', hr, h2, h3, h5⟩
variable {ops : Array Oper} {rest : List Oper} {o : Oper} {a : Act} {Q : Exit → Act → World → Prop}
/-- An append to a slice of the call's own, in a row of operations. -/
theorem wpList_append_row {α : Type} {f : α → List Value} (hgd : o.guard = none) (s x : Operand) (t : TypeId) (ho : o.op = .call { callee := .builtin .append, args := #[s, x], argTypes := #[t, t] })
    (base : Nat) (e : TypeId) (i : TypeInfo) (z : Value) (size bytes : Nat) (ht : P.underlying t = some (.slice e)) (hi : P.info? e = some i) (hz : i.zero = some z)
    (hsize : i.size = size) (hby : i.bytes = bytes) (hzs : z.cells.size = size) (hsz : 0 < size) (v : Value) (L : List α) (hs : a.eval s = v) (hown : Row base e size f w v L)
    (M : List α) (u : Value) (hx : a.eval x = u) (hsrc : SrcOf w u M.length size (M.flatMap f)) (h63 : L.length + M.length ≤ maxLen) (hbytes : (L.length + M.length) * bytes ≤ 140737488355328) (hbase : base ≤ w.heap.size)
    (h : ∀ a' c' w', Row base e size f w' (.slice a' (L.length + M.length) c') (L ++ M) → Upd v.ownBlock.toList w w' → ((Value.slice a' (L.length + M.length) c').ownBlock = v.ownBlock ∨ (Value.slice a' (L.length + M.length) c').ownBlock = some w.heap.size) → wpList P ops Q rest (a.put o.dst (.slice a' (L.length + M.length) c')) w') :
    wpList P ops Q (o :: rest) a w := by
  refine wpList_plain hgd fun K hK => ?_
  obtain ⟨v', w', hr, h2, h3, h5⟩ := run_append_src (P := P) w base t o.type e i z size bytes ht hi hz hsize hby hzs hsz v _ _ hown.2.2 u _ _ hsrc h63 hbytes hbase
  have hR : Row base e size f w' v' (L ++ M) := ⟨hown.1, hown.2.1, by rw [List.length_append, List.flatMap_append]; exact h2⟩
  obtain ⟨a', c', he⟩ := hR.shape
  rw [List.length_append] at he
  subst he
  unfold Oper.wp execOp
  simp only [ho, resolve, invoke, builtin, Sem.run_bind, Sem.run_pure, Result.andThen_ok, List.map_toArray, List.map_cons, List.map_nil, hs, hx, hr]
  exact hK _ _ (h a' c' w' hR (Upd.of_grown h3) h5)
/-- The same as one step of a region that draws its order. -/
theorem step_append_row {α : Type} {f : α → List Value} {K : Act → World → Prop} {E : Prop} (hgd : o.guard = none) (s x : Operand) (t : TypeId) (ho : o.op = .call { callee := .builtin .append, args := #[s, x], argTypes := #[t, t] })
    (base : Nat) (e : TypeId) (i : TypeInfo) (z : Value) (size bytes : Nat) (ht : P.underlying t = some (.slice e)) (hi : P.info? e = some i) (hz : i.zero = some z)
    (hsize : i.size = size) (hby : i.bytes = bytes) (hzs : z.cells.size = size) (hsz : 0 < size) (v : Value) (L : List α) (hs : a.eval s = v) (hown : Row base e size f w v L)
    (M : List α) (u : Value) (hx : a.eval x = u) (hsrc : SrcOf w u M.length size (M.flatMap f)) (h63 : L.length + M.length ≤ maxLen) (hbytes : (L.length + M.length) * bytes ≤ 140737488355328) (hbase : base ≤ w.heap.size)
    (h : ∀ a' c' w', Row base e size f w' (.slice a' (L.length + M.length) c') (L ++ M) → Upd v.ownBlock.toList w w' → ((Value.slice a' (L.length + M.length) c').ownBlock = v.ownBlock ∨ (Value.slice a' (L.length + M.length) c').ownBlock = some w.heap.size) → K (a.put o.dst (.slice a' (L.length + M.length) c')) w') :
    if Region.wanted o (yielded ops a.tmps) = true then Oper.wp P o a w K Q else E := by
  have hw : Region.wanted o (yielded ops a.tmps) = true := by simp [Region.wanted, hgd]
  rw [if_pos hw]
  obtain ⟨v', w', hr, h2, h3, h5⟩ := run_append_src (P := P) w base t o.type e i z size bytes ht hi hz hsize hby hzs hsz v _ _ hown.2.2 u _ _ hsrc h63 hbytes hbase
  have hR : Row base e size f w' v' (L ++ M) := ⟨hown.1, hown.2.1, by rw [List.length_append, List.flatMap_append]; exact h2⟩
  obtain ⟨a', c', he⟩ := hR.shape
  rw [List.length_append] at he
  subst he
  unfold Oper.wp execOp
  simp only [ho, resolve, invoke, builtin, Sem.run_bind, Sem.run_pure, Result.andThen_ok, List.map_toArray, List.map_cons, List.map_nil, hs, hx, hr]
  exact h a' c' w' hR (Upd.of_grown h3) h5
end
end Go.Proofs.YtmhlokomlngdmaaGreat
