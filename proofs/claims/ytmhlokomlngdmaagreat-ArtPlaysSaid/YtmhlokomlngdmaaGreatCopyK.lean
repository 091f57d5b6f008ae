/- copy, append of a make, over elements of k cells: what a run does; no program in sight. -/
import Derived.Test.YtmhlokomlngdmaaGreatRow
import Derived.Laws.CopyRow
import Derived.Lib.AppendZerosOnto
import Derived.Lib.Overlaps
import Derived.Laws.Externs
import Derived.Laws.NewBlocks
namespace Go.Proofs.YtmhlokomlngdmaaGreat
open Go.RowKit
variable {P : Program}
theorem run_copy_rowk (w : World) (dT sT ty elem : TypeId) (k g o dLen dCap : Nat) (a : Addr) (sLen sCap : Nat) (cur : Array Value) (t : TypeId) (cs : List Value)
    (hu : P.underlying dT = some (.slice elem)) (hs : (P.info? elem).map (·.size) = some k) (hg : w.heap[g]? = some (.cells cur t (0, 0))) (hn : cs.length = Nat.min sLen dLen * k)
    (hsrc : ∀ j v, cs[j]? = some v → w.cell? (a.add j) = some v) (hfit : o + cs.length ≤ cur.size) (h1 : ∀ v ∈ cs, v.oneCell' = true) :
    (Builtin.copy_ #[dT, sT] ty #[.slice (some ⟨g, o, none⟩) dLen dCap, .slice (some a) sLen sCap]).run P w =
      .ok (goInt (Nat.min sLen dLen)) (w.setRow g (cur.toList.take o ++ cs ++ cur.toList.drop (o + cs.length)).toArray) := by
  have hl := run_loadCells_list (P := P) w a cs hsrc
  have hst := run_storeCells_at P g o t cs 0 cur w hg (by simpa using hfit) h1
  cases hq : P.info? elem with
  | none => simp [hq] at hs
  | some i =>
    have hi : i.size = k := by simpa [hq] using hs
    simp only [Builtin.copy_, Builtin.lenOf, Builtin.firstCells, sizeOf, typeInfo]
    simp [run_underlying hu, hq, hi, ← hn, hl, hst]
theorem Upd.setRow {S : List Nat} {a w : World} (h : Upd S a w) {g : Nat} (hg : g ∈ S) (cs : Array Value) : Upd S a (w.setRow g cs) :=
  h.trans ⟨rfl, rfl, rfl, by simp, fun k _ hn => setRow_other _ _ _ _ (fun e => hn (by rw [e]; exact hg))⟩
theorem Upd.setRowNew {S : List Nat} {a w : World} (h : Upd S a w) {g : Nat} (hg : a.heap.size ≤ g) (cs : Array Value) : Upd S a (w.setRow g cs) :=
  ⟨h.os, h.tape, h.output, by simp; exact h.size, fun k hk hn => by rw [setRow_other _ _ _ _ (by omega)]; exact h.block k hk hn⟩
/-- A copy whose run is known, in a row of operations. -/
theorem wpList_copy_is (w : World) {ops : Array Oper} {rest : List Oper} {o : Oper} {a : Act} {Q : Exit → Act → World → Prop} (hgd : o.guard = none) (d s : Operand) (t t' : TypeId)
    (ho : o.op = .call { callee := .builtin .copy, args := #[d, s], argTypes := #[t, t'] }) (v u : Value) (hd : a.eval d = v) (hs : a.eval s = u) {v' : Value} {w' : World}
    (hr : (Builtin.copy_ #[t, t'] o.type #[v, u]).run P w = .ok v' w') (h : wpList P ops Q rest (a.put o.dst v') w') : wpList P ops Q (o :: rest) a w := by
  refine wpList_plain hgd fun K hK => ?_
  unfold Oper.wp execOp
  simp only [ho, resolve, invoke, builtin, Sem.run_bind, Sem.run_pure, Result.andThen_ok, List.map_toArray, List.map_cons, List.map_nil, hd, hs, hr]
  exact hK _ _ h
/-- The same as one step of a region that draws. -/
theorem step_copy_is {ops : Array Oper} {o : Oper} {a : Act} {w : World} {K : Act → World → Prop} {Q : Exit → Act → World → Prop} {E : Prop} (hgd : o.guard = none) (d s : Operand) (t t' : TypeId)
    (ho : o.op = .call { callee := .builtin .copy, args := #[d, s], argTypes := #[t, t'] }) (v u : Value) (hd : a.eval d = v) (hs : a.eval s = u) {v' : Value} {w' : World}
    (hr : (Builtin.copy_ #[t, t'] o.type #[v, u]).run P w = .ok v' w') (h : K (a.put o.dst v') w') : if Region.wanted o (yielded ops a.tmps) = true then Oper.wp P o a w K Q else E := by
  have hw : Region.wanted o (yielded ops a.tmps) = true := by simp [Region.wanted, hgd]
  rw [if_pos hw]
  unfold Oper.wp execOp
  simp only [ho, resolve, invoke, builtin, Sem.run_bind, Sem.run_pure, Result.andThen_ok, List.map_toArray, List.map_cons, List.map_nil, hd, hs, hr]
  exact h
theorem shape_of_heap {w : World} {b : Nat} {c : Array Value} {t : TypeId} {fr : Nat × Nat} (h : w.heap[b]? = some (.cells c t fr)) : w.shape? b = some (t, c.size) := by
  unfold World.shape?
  rw [h]
/-- A row parted at one of its elements, with another one put in ahead of it. -/
theorem insert_flat {α : Type} {f : α → List Value} (L : List α) (x : α) (i : Nat) (hi : i ≤ L.length) : (L.insertIdx i x).flatMap f = (L.take i).flatMap f ++ (f x ++ (L.drop i).flatMap f) := by
  rw [show L.insertIdx i x = L.take i ++ x :: L.drop i from by
    induction L generalizing i with
    | nil => simp at hi; subst hi; simp
    | cons y L ih =>
      cases i with
      | zero => simp
      | succ i => rw [List.insertIdx_succ_cons, ih i (by simpa using hi)]; simp]
  simp
theorem shift_lists {C Fa Fb X : List Value} {n a1 a2 k : Nat} (hC : C.take n = Fa ++ Fb) (ha : Fa.length = a1) (hb : Fb.length = n - a1) (hx : X.length = k) (h2 : a2 = a1 + k) (hn : a1 ≤ n) (hsz : n + k ≤ C.length) :
    ((C.take a2 ++ Fb ++ C.drop (a2 + Fb.length)).take a1 ++ X ++ (C.take a2 ++ Fb ++ C.drop (a2 + Fb.length)).drop (a1 + X.length)).take (n + k) = Fa ++ (X ++ Fb) := by
  have h3 : (C.take a2).length = a2 := by rw [List.length_take]; omega
  have h4 : (C.take a2 ++ Fb ++ C.drop (a2 + Fb.length)).take a1 = Fa := by
    rw [List.append_assoc, List.take_append_of_le_length (by omega), List.take_take, Nat.min_eq_left (by omega)]
    have : C.take a1 = (C.take n).take a1 := by rw [List.take_take, Nat.min_eq_left hn]
    rw [this, hC, List.take_append_of_le_length (by omega), List.take_of_length_le (by omega)]
  have h5 : (C.take a2 ++ Fb ++ C.drop (a2 + Fb.length)).drop (a1 + X.length) = Fb ++ C.drop (a2 + Fb.length) := by
    rw [List.append_assoc, hx, ← h2]
    have := List.drop_left' (l₂ := Fb ++ C.drop (a2 + Fb.length)) h3
    exact this
  rw [h4, h5, show n + k = (Fa ++ X ++ Fb).length by simp only [List.length_append]; omega, ← List.append_assoc (Fa ++ X), List.take_left]
  simp
theorem grow_lists {R Fa Fb X : List Value} {n a1 a2 k : Nat} (hR : R.take a1 = Fa) (ha : Fa.length = a1) (hb : Fb.length = n - a1) (hx : X.length = k) (h2 : a2 = a1 + k) (hn : a1 ≤ n) :
    (((R.take a1 ++ X ++ R.drop (a1 + X.length)).take a2 ++ Fb ++ (R.take a1 ++ X ++ R.drop (a1 + X.length)).drop (a2 + Fb.length)).take (n + k)) = Fa ++ (X ++ Fb) := by
  rw [hR]
  have h3 : (Fa ++ X ++ R.drop (a1 + X.length)).take a2 = Fa ++ X := by
    rw [List.take_append_of_le_length (by simp only [List.length_append]; omega), List.take_of_length_le (by simp only [List.length_append]; omega)]
  rw [h3, show n + k = (Fa ++ X ++ Fb).length by simp only [List.length_append]; omega, List.take_left]
  simp
theorem heap_setCells {b : Nat} {t : TypeId} : ∀ (vs : List Value) (o : Nat) (cur : Array Value) (w : World), w.heap[b]? = some (.cells cur t) → o + vs.length ≤ cur.size →
    (w.setCells b o vs).heap[b]? = some (.cells (cur.toList.take o ++ vs ++ cur.toList.drop (o + vs.length)).toArray t)
  | [], o, cur, w, h, _ => by
    show w.heap[b]? = _
    rw [h]
    simp
  | v :: vs, o, cur, w, h, hs => by
    have h1 := heap_set_same h o v
    have ih := heap_setCells vs (o + 1) (cur.setIfInBounds o v) (w.setCell ⟨b, o, none⟩ v) h1 (by simp at hs ⊢; omega)
    show ((w.setCell ⟨b, o, none⟩ v).setCells b (o + 1) vs).heap[b]? = _
    rw [ih]
    have e := list_seg_step cur.toList o v vs (by simp at hs ⊢; omega)
    simp only [Array.toList_setIfInBounds]
    have e2 : (cur.toList.set o v).take (o + 1) ++ vs ++ (cur.toList.set o v).drop (o + 1 + vs.length) = cur.toList.take o ++ v :: vs ++ cur.toList.drop (o + (v :: vs).length) := by
      simpa [Nat.add_assoc] using e
    rw [e2]
theorem Upd.setCells {S : List Nat} {b : Nat} (hb : b ∈ S) : ∀ (vs : List Value) (o : Nat) {a w : World}, Upd S a w → Upd S a (w.setCells b o vs)
  | [], _, _, _, h => h
  | v :: vs, o, _, _, h => Upd.setCells hb vs (o + 1) (h.setCell (p := ⟨b, o, none⟩) hb v)
end Go.Proofs.YtmhlokomlngdmaaGreat
