/- Maps whose keys are ints, as a list of entries in the row in which they stand: what a look-up, a store, a delete and a length come to. No program in sight. -/
import Derived.WalkKit
import Derived.MapKept
import Derived.Test.YtmhlokomlngdmaaGreatLib
namespace Go.Proofs.YtmhlokomlngdmaaGreat
open Go.MapKept
/-- An entry: its key, its value, when it was born. -/
structure Ent where
  k : Int
  v : Value
  born : Nat
def Ent.toEntry (e : Ent) : MapEntry := { key := .int .i64 e.k, val := e.v, born := e.born }
def ents (L : List Ent) : Array MapEntry := (L.map Ent.toEntry).toArray
/-- Where a key stands, and what it has. -/
def seekFrom (k : Int) : List Ent → Nat → Option (Nat × Value)
  | [], _ => none
  | e :: es, i => if k = e.k then some (i, e.v) else seekFrom k es (i + 1)
theorem findNow_ents (k : Int) : ∀ (L : List Ent) (i : Nat), Instr.findNow (.int .i64) (.int .i64 k) (L.map Ent.toEntry) i = some (seekFrom k L i)
  | [], _ => rfl
  | e :: es, i => by
    simp only [List.map_cons, Instr.findNow, Ent.toEntry, Instr.sameNow, seekFrom]
    by_cases h : k = e.k
    · simp [h]
    · have := findNow_ents k es (i + 1)
      have hb : (k == e.k) = false := by simpa using h
      simp [h, this, hb]
/-- The value of a key. -/
def val? (L : List Ent) (k : Int) : Option Value := (L.find? fun e => k = e.k).map Ent.v
theorem seek_val (k : Int) : ∀ (L : List Ent) (i : Nat), (seekFrom k L i).map (·.2) = val? L k
  | [], _ => rfl
  | e :: es, i => by
    by_cases h : k = e.k
    · simp [seekFrom, val?, h]
    · have := seek_val k es (i + 1)
      simp only [val?] at this
      simp [seekFrom, val?, h, this]
/-- The list with a key's value set: in its place, or behind all. -/
def setEnt (k : Int) (v : Value) (c : Nat) : List Ent → List Ent
  | [] => [⟨k, v, c⟩]
  | e :: es => if k = e.k then { e with v := v } :: es else e :: setEnt k v c es
def dropEnt (k : Int) : List Ent → List Ent
  | [] => []
  | e :: es => if k = e.k then es else e :: dropEnt k es
section
variable {P : Program} {w : World}
theorem run_lookup_ok {T K E : TypeId} {r : Nat} {L : List Ent} {c : Nat} {z : Value} (k : Int) (hT : P.underlying T = some (.map K E)) (hK : P.underlying K = some (.int .i64)) (hb : w.heap[r]? = some (.map (ents L) c))
    (hz : (zeroValue E).run P w = .ok z w) :
    (Instr.lookup T (.map (some r)) (.int .i64 k) true).run P w = .ok (.tuple #[(val? L k).getD z, .bool (val? L k).isSome]) w := by
  have hc : (Instr.checkKey (ents L).isEmpty 10000 K (.int .i64 k)).run P w = .ok () w := run_checkKey (k := .int .i64 k) hK (by simp [IsKey]) _ 9999
  have hf : (Instr.findKey K (.int .i64 k) (ents L).toList).run P w = .ok (seekFrom k L 0) w := run_findKey hK (findNow_ents k L 0)
  have hs := seek_val k L 0
  cases h : seekFrom k L 0 with
  | none =>
    rw [h] at hf hs
    simp only [Option.map_none] at hs
    rw [← hs]
    simp [Instr.lookup, run_underlying hT, MapKept.run_getObj_map hb, hc, hf, Result.andThen, hz]
  | some x =>
    rw [h] at hf hs
    simp only [Option.map_some] at hs
    rw [← hs]
    simp [Instr.lookup, run_underlying hT, MapKept.run_getObj_map hb, hc, hf, Result.andThen]
theorem run_lookup_one {T K E : TypeId} {r : Nat} {L : List Ent} {c : Nat} {z : Value} (k : Int) (hT : P.underlying T = some (.map K E)) (hK : P.underlying K = some (.int .i64)) (hb : w.heap[r]? = some (.map (ents L) c))
    (hz : (zeroValue E).run P w = .ok z w) :
    (Instr.lookup T (.map (some r)) (.int .i64 k) false).run P w = .ok ((val? L k).getD z) w := by
  have hc : (Instr.checkKey (ents L).isEmpty 10000 K (.int .i64 k)).run P w = .ok () w := run_checkKey (k := .int .i64 k) hK (by simp [IsKey]) _ 9999
  have hf : (Instr.findKey K (.int .i64 k) (ents L).toList).run P w = .ok (seekFrom k L 0) w := run_findKey hK (findNow_ents k L 0)
  have hs := seek_val k L 0
  cases h : seekFrom k L 0 with
  | none =>
    rw [h] at hf hs
    simp only [Option.map_none] at hs
    rw [← hs]
    simp [Instr.lookup, run_underlying hT, MapKept.run_getObj_map hb, hc, hf, Result.andThen, hz]
  | some x =>
    rw [h] at hf hs
    simp only [Option.map_some] at hs
    rw [← hs]
    simp [Instr.lookup, run_underlying hT, MapKept.run_getObj_map hb, hc, hf, Result.andThen]
theorem seek_at (k : Int) : ∀ (L : List Ent) (i j : Nat) (v : Value), seekFrom k L i = some (j, v) → i ≤ j ∧ j < i + L.length ∧ ∃ e, L[j - i]? = some e ∧ e.k = k ∧ e.v = v
  | [], _, _, _, h => by simp [seekFrom] at h
  | e :: es, i, j, v, h => by
    unfold seekFrom at h
    split at h
    · rename_i hk
      simp only [Option.some.injEq, Prod.mk.injEq] at h
      obtain ⟨rfl, rfl⟩ := h
      exact ⟨Nat.le_refl _, by simp, e, by simp, hk.symm, rfl⟩
    · obtain ⟨h1, h2, e', h3, h4⟩ := seek_at k es (i + 1) j v h
      refine ⟨by omega, by simp; omega, e', ?_, h4⟩
      rw [show j - i = (j - (i + 1)) + 1 by omega]
      simpa using h3
theorem setEnt_hit (k : Int) (x : Value) (c : Nat) : ∀ (L : List Ent) (i j : Nat) (v : Value), seekFrom k L i = some (j, v) → setEnt k x c L = L.modify (j - i) fun e => { e with v := x }
  | [], _, _, _, h => by simp [seekFrom] at h
  | e :: es, i, j, v, h => by
    have h0 := seek_at k (e :: es) i j v h
    unfold seekFrom at h
    split at h
    · rename_i hk
      simp only [Option.some.injEq, Prod.mk.injEq] at h
      obtain ⟨rfl, rfl⟩ := h
      simp [setEnt, hk]
    · rename_i hk
      have h2 := seek_at k es (i + 1) j v h
      have h1 := setEnt_hit k x c es (i + 1) j v h
      rw [show j - i = (j - (i + 1)) + 1 by omega]
      simp [setEnt, hk, h1]
theorem setEnt_miss (k : Int) (x : Value) (c : Nat) : ∀ (L : List Ent) (i : Nat), seekFrom k L i = none → setEnt k x c L = L ++ [⟨k, x, c⟩]
  | [], _, _ => rfl
  | e :: es, i, h => by
    unfold seekFrom at h
    split at h
    · cases h
    · rename_i hk
      simp [setEnt, hk, setEnt_miss k x c es (i + 1) h]
theorem seek_none (k : Int) : ∀ (L : List Ent) (i : Nat), val? L k = none → seekFrom k L i = none
  | L, i, h => by
    have := seek_val k L i
    rw [h] at this
    cases hs : seekFrom k L i with
    | none => rfl
    | some x => rw [hs] at this; cases this
theorem setEnt_none (k : Int) (x : Value) (c : Nat) (L : List Ent) (h : val? L k = none) : setEnt k x c L = L ++ [⟨k, x, c⟩] := setEnt_miss k x c L 0 (seek_none k L 0 h)
theorem dropEnt_hit (k : Int) : ∀ (L : List Ent) (i j : Nat) (v : Value), seekFrom k L i = some (j, v) → dropEnt k L = L.eraseIdx (j - i)
  | [], _, _, _, h => by simp [seekFrom] at h
  | e :: es, i, j, v, h => by
    unfold seekFrom at h
    split at h
    · rename_i hk
      simp only [Option.some.injEq, Prod.mk.injEq] at h
      obtain ⟨rfl, rfl⟩ := h
      simp [dropEnt, hk]
    · rename_i hk
      have h2 := seek_at k es (i + 1) j v h
      have h1 := dropEnt_hit k es (i + 1) j v h
      rw [show j - i = (j - (i + 1)) + 1 by omega]
      simp [dropEnt, hk, h1]
theorem dropEnt_miss (k : Int) : ∀ (L : List Ent) (i : Nat), seekFrom k L i = none → dropEnt k L = L
  | [], _, _ => rfl
  | e :: es, i, h => by
    unfold seekFrom at h
    split at h
    · cases h
    · rename_i hk
      simp [dropEnt, hk, dropEnt_miss k es (i + 1) h]
def World.setObj' (w : World) (r : Nat) (o : Obj) : World := { w with heap := w.heap.setIfInBounds r o }
theorem heap_setObj_same {w : World} {r : Nat} (o : Obj) (h : r < w.heap.size) : (World.setObj' w r o).heap[r]? = some o := by
  simp [World.setObj', h]
theorem heap_setObj_other {w : World} {r b : Nat} (o : Obj) (h : b ≠ r) : (World.setObj' w r o).heap[b]? = w.heap[b]? := by
  simp only [World.setObj', Array.getElem?_setIfInBounds]
  rw [if_neg (fun e => h e.symm)]
theorem size_setObj (w : World) (r : Nat) (o : Obj) : (World.setObj' w r o).heap.size = w.heap.size := by simp [World.setObj']
theorem Upd.setObj {S : List Nat} {a w : World} (h : Upd S a w) {r : Nat} (hr : r ∈ S) (o : Obj) : Upd S a (World.setObj' w r o) :=
  h.trans ⟨rfl, rfl, rfl, by rw [size_setObj]; exact Nat.le_refl _, fun k _ hn => heap_setObj_other _ (fun e => hn (by rw [e]; exact hr))⟩
theorem run_update {T K E : TypeId} {r : Nat} {L : List Ent} {c : Nat} (k : Int) (x : Value) (hT : P.underlying T = some (.map K E)) (hK : P.underlying K = some (.int .i64)) (hb : w.heap[r]? = some (.map (ents L) c)) :
    (Instr.mapUpdate T (.map (some r)) (.int .i64 k) x).run P w = .ok () (World.setObj' w r (.map (ents (setEnt k x c L)) (if (val? L k).isSome then c else c + 1))) := by
  have hc : (Instr.checkKey false 10000 K (.int .i64 k)).run P w = .ok () w := run_checkKey (k := .int .i64 k) hK (by simp [IsKey]) _ 9999
  have hf : (Instr.findKey K (.int .i64 k) (ents L).toList).run P w = .ok (seekFrom k L 0) w := run_findKey hK (findNow_ents k L 0)
  have hs := seek_val k L 0
  cases h : seekFrom k L 0 with
  | none =>
    rw [h] at hf hs
    simp only [Option.map_none] at hs
    rw [← hs, setEnt_miss k x c L 0 h]
    have hp : (ents L).push { key := .int .i64 k, val := x, born := c } = ents (L ++ [⟨k, x, c⟩]) := by
      simp [ents, Ent.toEntry]
    simp [Instr.mapUpdate, run_underlying hT, MapKept.run_getObj_map hb, hc, hf, Result.andThen, MapKept.run_setObj_map _ hb, World.setObj', hp]
  | some y =>
    obtain ⟨j, v⟩ := y
    rw [h] at hf hs
    simp only [Option.map_some] at hs
    obtain ⟨_, hj, e, he, hek, hev⟩ := seek_at k L 0 j v h
    rw [← hs, setEnt_hit k x c L 0 j v h]
    simp only [Nat.zero_add, Nat.sub_zero] at hj he
    have hkey : ((ents L)[j]?.map (·.key)).getD (.int .i64 k) = .int .i64 k := by
      simp [ents, he, Ent.toEntry, hek]
    have hst : (Instr.keyThatStays (.int .i64 k) (.int .i64 k)).run P w = .ok (.int .i64 k) w := by
      simp [Instr.keyThatStays, Instr.sameBits]
    have hmod : (ents L).modify j (fun e => { e with key := .int .i64 k, val := x }) = ents (L.modify j fun e => { e with v := x }) := by
      apply Array.ext_getElem?
      intro i
      unfold ents
      simp only [Array.getElem?_modify, List.getElem?_toArray, List.getElem?_map, List.getElem?_modify]
      by_cases hij : j = i
      · subst hij
        simp [he, Ent.toEntry, hek]
      · simp [hij]
    simp [Instr.mapUpdate, run_underlying hT, MapKept.run_getObj_map hb, hc, hf, Result.andThen, MapKept.run_setObj_map _ hb, World.setObj', hkey, hst, hmod]
theorem run_delete {T K E KT ty : TypeId} {r : Nat} {L : List Ent} {c : Nat} (k : Int) (hT : P.underlying T = some (.map K E)) (hK : P.underlying K = some (.int .i64)) (hb : w.heap[r]? = some (.map (ents L) c)) :
    (Builtin.delete_ #[T, KT] ty #[.map (some r), .int .i64 k]).run P w = .ok (.tuple #[]) (World.setObj' w r (.map (ents (dropEnt k L)) c)) := by
  have hc : (Instr.checkKey (ents L).isEmpty 10000 K (.int .i64 k)).run P w = .ok () w := run_checkKey (k := .int .i64 k) hK (by simp [IsKey]) _ 9999
  have hf : (Instr.findKey K (.int .i64 k) (ents L).toList).run P w = .ok (seekFrom k L 0) w := run_findKey hK (findNow_ents k L 0)
  cases h : seekFrom k L 0 with
  | none =>
    rw [h] at hf
    rw [dropEnt_miss k L 0 h]
    simp [Builtin.delete_, run_underlying hT, MapKept.run_getObj_map hb, hc, hf, Result.andThen, MapKept.run_setObj_map _ hb, World.setObj']
  | some y =>
    obtain ⟨j, v⟩ := y
    rw [h] at hf
    obtain ⟨_, hj, _⟩ := seek_at k L 0 j v h
    rw [dropEnt_hit k L 0 j v h]
    have he : (ents L).eraseIdxIfInBounds j = ents (L.eraseIdx j) := by
      have hm : ∀ (l : List Ent) (n : Nat), (l.map Ent.toEntry).eraseIdx n = (l.eraseIdx n).map Ent.toEntry := by
        intro l
        induction l with
        | nil => intro n; rfl
        | cons a l ih => intro n; cases n with
          | zero => rfl
          | succ n => simp [ih]
      unfold ents
      rw [Array.eraseIdxIfInBounds_eq]
      simp [hm]
      intro hle
      omega
    simp [Builtin.delete_, run_underlying hT, MapKept.run_getObj_map hb, hc, hf, Result.andThen, MapKept.run_setObj_map _ hb, World.setObj', he]
theorem run_len {T K E ty : TypeId} {r : Nat} {L : List Ent} {c : Nat} (hT : P.underlying T = some (.map K E)) (hb : w.heap[r]? = some (.map (ents L) c)) :
    (Builtin.len_ #[T] ty #[.map (some r)]).run P w = .ok (.int .i64 L.length) w := by
  simp [Builtin.len_, run_underlying hT, MapKept.run_getObj_map hb, Result.andThen, goInt, ents]
end
end Go.Proofs.YtmhlokomlngdmaaGreat
