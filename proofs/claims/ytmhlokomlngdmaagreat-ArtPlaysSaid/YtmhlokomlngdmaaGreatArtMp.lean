/- Maps whose keys are strings, as a list of entries in the row in which they stand: what a look-up, a store, a delete and a length come to. No program in sight. The document's functions of layers 7 and 12, beside a trie: how far two texts are alike, how many nodes keys make. The document's map of layer 7, beside a trie: Get, Without, With, next, All. -/
import Derived.WalkKit
import Derived.MapKept
import Derived.Test.YtmhlokomlngdmaaGreatMaps
import Derived.Test.YtmhlokomlngdmaaGreatArtSm
import Derived.BigQuiet
import Derived.Deep.QuietTactic
import Derived.Deep.CutBlock
import Derived.Deep.DeepCutAuto
namespace Go.Proofs.YtmhlokomlngdmaaGreat.MS
open Go.MapKept
theorem ba_beq (a b : ByteArray) : (a == b) = decide (a = b) := by
  obtain ⟨x⟩ := a
  obtain ⟨y⟩ := b
  show (x == y) = _
  by_cases h : x = y
  · subst h; simp
  · have h2 : ¬ (ByteArray.mk x = ByteArray.mk y) := fun e => h (by injection e)
    rw [decide_eq_false h2]
    simpa using h
/-- An entry: its key, its value, when it was born. -/
structure Ent where
  k : ByteArray
  v : Value
  born : Nat
def Ent.toEntry (e : Ent) : MapEntry := { key := .string e.k, val := e.v, born := e.born }
def ents (L : List Ent) : Array MapEntry := (L.map Ent.toEntry).toArray
/-- Where a key stands, and what it has. -/
def seekFrom (k : ByteArray) : List Ent → Nat → Option (Nat × Value)
  | [], _ => none
  | e :: es, i => if k = e.k then some (i, e.v) else seekFrom k es (i + 1)
theorem findNow_ents (k : ByteArray) : ∀ (L : List Ent) (i : Nat), Instr.findNow .string (.string k) (L.map Ent.toEntry) i = some (seekFrom k L i)
  | [], _ => rfl
  | e :: es, i => by
    simp only [List.map_cons, Instr.findNow, Ent.toEntry, Instr.sameNow, seekFrom]
    by_cases h : k = e.k
    · simp [h, ba_beq]
    · have := findNow_ents k es (i + 1)
      have hb : (k == e.k) = false := by rw [ba_beq]; exact decide_eq_false h
      simp [h, this, hb]
/-- The value of a key. -/
def val? (L : List Ent) (k : ByteArray) : Option Value := (L.find? fun e => k = e.k).map Ent.v
theorem seek_val (k : ByteArray) : ∀ (L : List Ent) (i : Nat), (seekFrom k L i).map (·.2) = val? L k
  | [], _ => rfl
  | e :: es, i => by
    by_cases h : k = e.k
    · simp [seekFrom, val?, h]
    · have := seek_val k es (i + 1)
      simp only [val?] at this
      simp [seekFrom, val?, h, this]
/-- The list with a key's value set: in its place, or behind all. -/
def setEnt (k : ByteArray) (v : Value) (c : Nat) : List Ent → List Ent
  | [] => [⟨k, v, c⟩]
  | e :: es => if k = e.k then { e with v := v } :: es else e :: setEnt k v c es
theorem seek_at (k : ByteArray) : ∀ (L : List Ent) (i j : Nat) (v : Value), seekFrom k L i = some (j, v) → i ≤ j ∧ j < i + L.length ∧ ∃ e, L[j - i]? = some e ∧ e.k = k ∧ e.v = v
  | [], _, _, _, h => by simp [seekFrom] at h
  | e :: es, i, j, v, h => by
    unfold seekFrom at h
    split at h
    · rename_i hk
      simp only [Option.some.injEq, Prod.mk.injEq] at h
      obtain ⟨rfl, rfl⟩ := h
      exact ⟨Nat.le_refl _, by simp, e, by simp, hk.symm, rfl⟩
    · obtain ⟨h1, h2, e', h3, h4⟩ := seek_at k es (i + 1) j v h
      refine ⟨by omega, by simp; omega, e', ?_, h4⟩
      rw [show j - i = (j - (i + 1)) + 1 by omega]
      simpa using h3
theorem setEnt_hit (k : ByteArray) (x : Value) (c : Nat) : ∀ (L : List Ent) (i j : Nat) (v : Value), seekFrom k L i = some (j, v) → setEnt k x c L = L.modify (j - i) fun e => { e with v := x }
  | [], _, _, _, h => by simp [seekFrom] at h
  | e :: es, i, j, v, h => by
    have h0 := seek_at k (e :: es) i j v h
    unfold seekFrom at h
    split at h
    · rename_i hk
      simp only [Option.some.injEq, Prod.mk.injEq] at h
      obtain ⟨rfl, rfl⟩ := h
      simp [setEnt, hk]
    · rename_i hk
      have h2 := seek_at k es (i + 1) j v h
      have h1 := setEnt_hit k x c es (i + 1) j v h
      rw [show j - i = (j - (i + 1)) + 1 by omega]
      simp [setEnt, hk, h1]
theorem setEnt_miss (k : ByteArray) (x : Value) (c : Nat) : ∀ (L : List Ent) (i : Nat), seekFrom k L i = none → setEnt k x c L = L ++ [⟨k, x, c⟩]
  | [], _, _ => rfl
  | e :: es, i, h => by
    unfold seekFrom at h
    split at h
    · cases h
    · rename_i hk
      simp [setEnt, hk, setEnt_miss k x c es (i + 1) h]
theorem seek_none (k : ByteArray) : ∀ (L : List Ent) (i : Nat), val? L k = none → seekFrom k L i = none
  | L, i, h => by
    have := seek_val k L i
    rw [h] at this
    cases hs : seekFrom k L i with
    | none => rfl
    | some x => rw [hs] at this; cases this
theorem setEnt_none (k : ByteArray) (x : Value) (c : Nat) (L : List Ent) (h : val? L k = none) : setEnt k x c L = L ++ [⟨k, x, c⟩] := setEnt_miss k x c L 0 (seek_none k L 0 h)
section
variable {P : Program} {w : World}
theorem run_update {T K E : TypeId} {r : Nat} {L : List Ent} {c : Nat} (k : ByteArray) (x : Value) (hT : P.underlying T = some (.map K E)) (hK : P.underlying K = some .string) (hb : w.heap[r]? = some (.map (ents L) c)) :
    (Instr.mapUpdate T (.map (some r)) (.string k) x).run P w = .ok () (World.setObj' w r (.map (ents (setEnt k x c L)) (if (val? L k).isSome then c else c + 1))) := by
  have hc : (Instr.checkKey false 10000 K (.string k)).run P w = .ok () w := run_checkKey (k := .string k) hK (by simp [IsKey]) _ 9999
  have hf : (Instr.findKey K (.string k) (ents L).toList).run P w = .ok (seekFrom k L 0) w := run_findKey hK (findNow_ents k L 0)
  have hs := seek_val k L 0
  cases h : seekFrom k L 0 with
  | none =>
    rw [h] at hf hs
    simp only [Option.map_none] at hs
    rw [← hs, setEnt_miss k x c L 0 h]
    have hp : (ents L).push { key := .string k, val := x, born := c } = ents (L ++ [⟨k, x, c⟩]) := by
      simp [ents, Ent.toEntry]
    simp [Instr.mapUpdate, run_underlying hT, MapKept.run_getObj_map hb, hc, hf, Result.andThen, MapKept.run_setObj_map _ hb, World.setObj', hp]
  | some y =>
    obtain ⟨j, v⟩ := y
    rw [h] at hf hs
    simp only [Option.map_some] at hs
    obtain ⟨_, hj, e, he, hek, hev⟩ := seek_at k L 0 j v h
    rw [← hs, setEnt_hit k x c L 0 j v h]
    simp only [Nat.zero_add, Nat.sub_zero] at hj he
    have hkey : ((ents L)[j]?.map (·.key)).getD (.string k) = .string k := by
      simp [ents, he, Ent.toEntry, hek]
    have hst : (Instr.keyThatStays (.string k) (.string k)).run P w = .ok (.string k) w := by
      simp [Instr.keyThatStays, Instr.sameBits, ba_beq]
    have hmod : (ents L).modify j (fun e => { e with key := .string k, val := x }) = ents (L.modify j fun e => { e with v := x }) := by
      apply Array.ext_getElem?
      intro i
      unfold ents
      simp only [Array.getElem?_modify, List.getElem?_toArray, List.getElem?_map, List.getElem?_modify]
      by_cases hij : j = i
      · subst hij
        simp [he, Ent.toEntry, hek]
      · simp [hij]
    simp [Instr.mapUpdate, run_underlying hT, MapKept.run_getObj_map hb, hc, hf, Result.andThen, MapKept.run_setObj_map _ hb, World.setObj', hkey, hst, hmod]
theorem run_len {T K E ty : TypeId} {r : Nat} {L : List Ent} {c : Nat} (hT : P.underlying T = some (.map K E)) (hb : w.heap[r]? = some (.map (ents L) c)) :
    (Builtin.len_ #[T] ty #[.map (some r)]).run P w = .ok (.int .i64 L.length) w := by
  simp [Builtin.len_, run_underlying hT, MapKept.run_getObj_map hb, Result.andThen, goInt, ents]
end
end Go.Proofs.YtmhlokomlngdmaaGreat.MS
namespace Go.Proofs.YtmhlokomlngdmaaGreat
open Go.RowKit
theorem str_beq (a b : Str) : (ByteArray.toList a == ByteArray.toList b) = decide (a = b) := by
  rw [ByteArray.toList_eq, ByteArray.toList_eq]
  by_cases h : a = b
  · subst h
    simp
  · rw [decide_eq_false h]
    have : ¬ a.data.toList = b.data.toList := fun e => h (bl_inj e)
    simpa using this
set_option maxRecDepth 100000 in
set_option maxHeartbeats 2000000 in
theorem rcommon_any (a b : Str) (w : World) (ha : a.size ≤ 9223372036854775807) :
    Calls Tryz.prog 65 #[.string a, .string b] w fun e w' => e = .returned (.int .i64 (cpre (bl a) (bl b)).length) ∧ Below w.heap.size w w' := by
  have hsz1 := bl_size a
  have hsz2 := bl_size b
  replace hsz1 := Lib.hid hsz1
  replace hsz2 := Lib.hid hsz2
  go_enter Tryz.func65, Tryz.ntmps65
  go_wp2_with fail
  go_loopg [5] (a.size + 1) (fun gk v5 wr => ∃ i : Nat, gk = a.size + 1 - i ∧ v5 = .int .i64 i ∧ i ≤ a.size ∧ i ≤ b.size ∧ (∀ j, j < i → (bl a)[j]? = (bl b)[j]?) ∧ Below w.heap.size w wr)
  case atStart => exact ⟨0, rfl, rfl, Nat.zero_le _, Nat.zero_le _, fun j hj => absurd hj (Nat.not_lt_zero _), Below.refl _ _⟩
  case round =>
    obtain ⟨i, rfl, rfl, hia', hib', hall, hBw⟩ := hrel
    replace hBw := Lib.hid hBw
    replace hall := Lib.hid hall
    by_cases hia : i < a.size
    · by_cases hib : i < b.size
      · have g1 : (i : Int) < (a.size : Int) := by omega
        have g2 : (i : Int) < (b.size : Int) := by omega
        have g3 : (0 : Int) ≤ (i : Int) := by omega
        have ga : ∀ W, (Instr.index 9 (.string a) (.int .i64 (i : Nat))).run Tryz.prog W = .ok (.int .u8 (a.get i hia).toNat) W := fun W => by
          rw [run_index_string W _ a _ _ Tryz.underlying9, dif_pos (by omega)]; rfl
        have gb : ∀ W, (Instr.index 9 (.string b) (.int .i64 (i : Nat))).run Tryz.prog W = .ok (.int .u8 (b.get i hib).toNat) W := fun W => by
          rw [run_index_string W _ b _ _ Tryz.underlying9, dif_pos (by omega)]; rfl
        have ea := Lib.hid (bl_get hia)
        have eb := Lib.hid (bl_get hib)
        generalize a.get i hia = x at *
        generalize b.get i hib = y at *
        have hxy := u8_eq_int x y
        have hw1 : IntKind.i64.wrap ((i : Int) + 1) = (i : Int) + 1 := IntWalk.i64_in _ (by omega)
        cases hd : decide (x = y) with
        | true =>
          rw [hd] at hxy
          replace hd := Lib.hid (of_decide_eq_true hd)
          go_upto_region 2 with fail
          go_quiet (fail)
          go_wp2_with fail
          go_roundg (a.size + 1 - (i + 1))
          case rel =>
            refine ⟨i + 1, rfl, by go_num, by omega, by omega, fun j hj => ?_, hBw.out.trans (below_drewN (Below.refl _ _) _)⟩
            by_cases hji : j < i
            · exact hall.out j hji
            · obtain rfl : j = i := by omega
              rw [ea.out, eb.out, hd.out]
          case measure => omega
        | false =>
          rw [hd] at hxy
          replace hd := Lib.hid (of_decide_eq_false hd)
          have hc := Lib.hid (cpre_at (bl a) (bl b) i (by rw [hsz1.out]; omega) (by rw [hsz2.out]; omega) hall.out (.inr (.inr (by rw [ea.out, eb.out]; intro hh; injection hh with hh; exact hd.out hh))))
          go_upto_region 2 with fail
          go_quiet (fail)
          go_wp2_with fail
          go_ret
          rw [hc.out]
          exact ⟨rfl, hBw.out.trans (below_drewN (Below.refl _ _) _)⟩
      · obtain rfl : i = b.size := by omega
        have g1 : (b.size : Int) < (a.size : Int) := by omega
        have hc := Lib.hid (cpre_at (bl a) (bl b) b.size (by rw [hsz1.out]; omega) (by rw [hsz2.out]; omega) hall.out (.inr (.inl hsz2.out.symm)))
        go_upto_region 2 with fail
        go_quiet (fail)
        go_wp2_with fail
        go_ret
        rw [hc.out]
        exact ⟨rfl, hBw.out.trans (below_drewN (Below.refl _ _) _)⟩
    · obtain rfl : i = a.size := by omega
      have hc := Lib.hid (cpre_at (bl a) (bl b) a.size (by rw [hsz1.out]; omega) (by rw [hsz2.out]; omega) hall.out (.inl hsz1.out.symm))
      go_upto_region 2 with fail
      go_quiet (fail)
      go_wp2_with fail
      go_ret
      rw [hc.out]
      exact ⟨rfl, hBw.out.trans (below_drewN (Below.refl _ _) _)⟩
/-- A map of strings, each with 1, in a block of its own. -/
def MIn (w W : World) (r : Nat) (S : Byt → Prop) : Prop :=
  ∃ E c, W.heap[r]? = some (.map (MS.ents E) c) ∧ (E.map fun e => bl e.k).Nodup ∧ (∀ p, p ∈ (E.map fun e => bl e.k) ↔ S p) ∧ Below w.heap.size w W ∧ w.heap.size ≤ r
theorem setEnt_keys (k : ByteArray) (v : Value) (c : Nat) : ∀ E : List MS.Ent, ((MS.setEnt k v c E).map fun e => bl e.k) = if bl k ∈ (E.map fun e => bl e.k) then (E.map fun e => bl e.k) else (E.map fun e => bl e.k) ++ [bl k]
  | [] => by simp [MS.setEnt]
  | e :: es => by
    unfold MS.setEnt
    by_cases h : k = e.k
    · rw [if_pos h]
      simp [h]
    · rw [if_neg h]
      have ih := setEnt_keys k v c es
      have hne : ¬ bl k = bl e.k := fun e' => h (bl_inj e')
      simp only [List.map_cons, ih, List.mem_cons, hne, false_or]
      split <;> simp
theorem MIn.add {w W : World} {r : Nat} {S : Byt → Prop} (h : MIn w W r S) (k : ByteArray) : ∃ W', (Instr.mapUpdate 145 (.map (some r)) (.string k) (.int .i64 1)).run Tryz.prog W = .ok () W' ∧ MIn w W' r (fun p => S p ∨ p = bl k) ∧ Upd [r] W W' := by
  obtain ⟨E, c, h1, h2, h3, h4, h5⟩ := h
  have hr := MS.run_update (P := Tryz.prog) (w := W) (T := 145) (K := 9) (E := 3) (r := r) (L := E) (c := c) k (.int .i64 1) Tryz.underlying145 Tryz.underlying9 h1
  have hu : Upd [r] W (World.setObj' W r (.map (MS.ents (MS.setEnt k (.int .i64 1) c E)) (if (MS.val? E k).isSome then c else c + 1))) := (Upd.refl _ _).setObj (by simp) _
  refine ⟨_, hr, ⟨_, _, heap_setObj_same _ (heap_lt h1), ?_, fun p => ?_, h4.trans (hu.below h4.size (by simp; exact h5)), h5⟩, hu⟩
  · rw [setEnt_keys]
    split
    · exact h2
    · rename_i hn
      rw [List.nodup_append]
      exact ⟨h2, by simp, fun x hx y hy => by rw [List.mem_singleton.1 hy]; exact fun e => hn (by rw [← e]; exact hx)⟩
  · rw [setEnt_keys]
    split
    · rename_i hm
      rw [h3]
      exact ⟨.inl, fun h => h.elim id fun e => by rw [e]; exact (h3 _).1 hm⟩
    · rw [List.mem_append, h3, List.mem_singleton]
theorem MIn.below {w W W' : World} {r : Nat} {S : Byt → Prop} (h : MIn w W r S) (hb : Below W.heap.size W W') : MIn w W' r S := by
  obtain ⟨E, c, h1, h2, h3, h4, h5⟩ := h
  exact ⟨E, c, Below.heap' hb h1, h2, h3, h4.trans (hb.mono h4.size), h5⟩
theorem MIn.iff {w W : World} {r : Nat} {S S' : Byt → Prop} (h : MIn w W r S) (hs : ∀ p, S p ↔ S' p) : MIn w W r S' := by
  obtain ⟨E, c, h1, h2, h3, h4, h5⟩ := h
  exact ⟨E, c, h1, h2, fun p => (h3 p).trans (hs p), h4, h5⟩
theorem MIn.len {w W : World} {r : Nat} {C : Cont} (h : MIn w W r (fun p => p ∈ keyPaths C)) (ty : TypeId) : (Builtin.len_ #[145] ty #[.map (some r)]).run Tryz.prog W = .ok (.int .i64 (nodesN C)) W := by
  obtain ⟨E, c, h1, h2, h3, h4, h5⟩ := h
  have := MS.run_len (P := Tryz.prog) (w := W) (T := 145) (K := 9) (E := 3) (ty := ty) (r := r) (L := E) (c := c) Tryz.underlying145 h1
  rw [this]
  have hl : E.length = nodesN C := by
    have hp := ((List.perm_ext_iff_of_nodup h2 (nodup_dd (keyPaths C))).2 fun p => (h3 p).trans mem_dd.symm).length_eq
    simpa [nodesN] using hp
  rw [hl]
theorem MIn.first (w : World) : ∃ W', (Instr.mapUpdate 145 (.map (some w.heap.size)) (.string ⟨#[]⟩) (.int .i64 1)).run Tryz.prog (w.alloc (.map #[] 0)) = .ok () W' ∧ MIn w W' w.heap.size (fun p => p = []) := by
  have h : MIn w (w.alloc (.map #[] 0)) w.heap.size (fun _ => False) := ⟨[], 0, heap_alloc_new _ _, by simp, by simp, (Below.refl _ _).alloc (Nat.le_refl _) _, Nat.le_refl _⟩
  obtain ⟨W', h1, h2, _⟩ := h.add ⟨#[]⟩
  exact ⟨W', h1, h2.iff fun p => by simp⟩
/-- The paths that the first i pairs make. -/
def PS (L : Cont) (i : Nat) (p : Byt) : Prop := p = [] ∨ (∃ (j : Nat) (x : Str × Str), j < i ∧ L[j]? = some x ∧ p = bl x.1) ∨ (∃ (j m : Nat) (x y : Str × Str), m < j ∧ j < i ∧ L[j]? = some x ∧ L[m]? = some y ∧ p = cpre (bl x.1) (bl y.1))
/-- And pair i beside the first k. -/
def PQ (L : Cont) (i : Nat) (x : Str × Str) (k : Nat) (p : Byt) : Prop := (PS L i p ∨ p = bl x.1) ∨ ∃ (m : Nat) (y : Str × Str), m < k ∧ L[m]? = some y ∧ p = cpre (bl x.1) (bl y.1)
theorem PQ.zero {L : Cont} {i : Nat} {x : Str × Str} (p : Byt) : (PS L i p ∨ p = bl x.1) ↔ PQ L i x 0 p :=
  ⟨.inl, fun h => h.elim id fun ⟨_, _, hm, _⟩ => absurd hm (Nat.not_lt_zero _)⟩
theorem PQ.succ {L : Cont} {i k : Nat} {x y : Str × Str} (hy : L[k]? = some y) (p : Byt) : (PQ L i x k p ∨ p = cpre (bl x.1) (bl y.1)) ↔ PQ L i x (k + 1) p := by
  constructor
  · rintro ((h | ⟨m, z, hm, hz, hp⟩) | h)
    · exact .inl h
    · exact .inr ⟨m, z, by omega, hz, hp⟩
    · exact .inr ⟨k, y, by omega, hy, h⟩
  · rintro (h | ⟨m, z, hm, hz, hp⟩)
    · exact .inl (.inl h)
    · by_cases e : m = k
      · subst e
        rw [hy] at hz
        injection hz with hz
        rw [← hz] at hp
        exact .inr hp
      · exact .inl (.inr ⟨m, z, by omega, hz, hp⟩)
theorem PQ.full {L : Cont} {i : Nat} {x : Str × Str} (hx : L[i]? = some x) (p : Byt) : PQ L i x i p ↔ PS L (i + 1) p := by
  constructor
  · rintro ((h | h) | ⟨m, y, hm, hy, hp⟩)
    · rcases h with h | ⟨j, z, hj, hz, hp⟩ | ⟨j, m, z, y, hm, hj, hz, hy, hp⟩
      · exact .inl h
      · exact .inr (.inl ⟨j, z, by omega, hz, hp⟩)
      · exact .inr (.inr ⟨j, m, z, y, hm, by omega, hz, hy, hp⟩)
    · exact .inr (.inl ⟨i, x, by omega, hx, h⟩)
    · exact .inr (.inr ⟨i, m, x, y, hm, by omega, hx, hy, hp⟩)
  · rintro (h | ⟨j, z, hj, hz, hp⟩ | ⟨j, m, z, y, hm, hj, hz, hy, hp⟩)
    · exact .inl (.inl (.inl h))
    · by_cases e : j = i
      · subst e
        rw [hx] at hz
        injection hz with hz
        rw [← hz] at hp
        exact .inl (.inr hp)
      · exact .inl (.inl (.inr (.inl ⟨j, z, by omega, hz, hp⟩)))
    · by_cases e : j = i
      · subst e
        rw [hx] at hz
        injection hz with hz
        rw [← hz] at hp
        exact .inr ⟨m, y, hm, hy, hp⟩
      · exact .inl (.inl (.inr (.inr ⟨j, m, z, y, hm, by omega, hz, hy, hp⟩)))
theorem cpre_self : ∀ a : Byt, cpre a a = a
  | [] => by simp [cpre]
  | x :: a => by unfold cpre; rw [if_pos rfl, cpre_self a]
theorem PS.all {L : Cont} (p : Byt) : PS L L.length p ↔ p ∈ keyPaths L := by
  rw [mem_keyPaths]
  constructor
  · rintro (h | ⟨j, x, hj, hx, hp⟩ | ⟨j, m, x, y, hm, hj, hx, hy, hp⟩)
    · exact .inl h
    · exact .inr (.inl ⟨x, List.mem_of_getElem? hx, hp.symm⟩)
    · by_cases e : x.1 = y.1
      · rw [e, cpre_self] at hp
        exact .inr (.inl ⟨y, List.mem_of_getElem? hy, hp.symm⟩)
      · exact .inr (.inr ⟨x, y, List.mem_of_getElem? hx, List.mem_of_getElem? hy, e, hp⟩)
  · rintro (h | ⟨x, hx, hp⟩ | ⟨x, y, hx, hy, hne, hp⟩)
    · exact .inl h
    · obtain ⟨j, hj⟩ := List.getElem?_of_mem hx
      exact .inr (.inl ⟨j, x, (List.getElem?_eq_some_iff.1 hj).1, hj, hp.symm⟩)
    · obtain ⟨j, hj⟩ := List.getElem?_of_mem hx
      obtain ⟨m, hm⟩ := List.getElem?_of_mem hy
      rcases Nat.lt_trichotomy m j with h | h | h
      · exact .inr (.inr ⟨j, m, x, y, h, (List.getElem?_eq_some_iff.1 hj).1, hj, hm, hp⟩)
      · subst h
        rw [hj] at hm
        injection hm with hm
        exact absurd (by rw [hm]) hne
      · exact .inr (.inr ⟨m, j, y, x, h, (List.getElem?_eq_some_iff.1 hm).1, hm, hj, hp.trans (cpre_comm _ _)⟩)
theorem slice_pre {W : World} (a b : Str) : (Instr.slice 9 (.string a) none (some (.int .i64 ((cpre (bl a) (bl b)).length : Int))) none).run Tryz.prog W = .ok (.string (bs (cpre (bl a) (bl b)))) W := by
  have hp := cpre_l (bl a) (bl b)
  have hl := hp.length_le
  rw [bl_size] at hl
  rw [run_slice_string_h (t := 9) (s := a) (ht := Tryz.underlying9) W .i64 _ (by omega) (by omega)]
  congr 2
  apply bl_inj
  rw [bl_bs]
  show (a.extract 0 _).data.toList = _
  rw [ByteArray.data_extract, Array.toList_extract]
  show (bl a).extract 0 _ = _
  rw [List.extract_eq_take_drop]
  simp only [List.drop_zero, Nat.sub_zero, Int.toNat_natCast]
  exact (List.prefix_iff_eq_take.1 hp).symm
set_option maxRecDepth 100000 in
set_option maxHeartbeats 4000000 in
theorem r12Slots_any (a : Option Addr) (c : Nat) (L : Cont) (w : World) (h : At w 2 pcel a c L) (hL : L.length ≤ 100000) (hz : ∀ x : Str × Str, x ∈ L → x.1.size ≤ maxLen) :
    Calls Tryz.prog 38 #[.slice a L.length c] w fun e w' => e = .returned (.int .i64 (nodesN L)) ∧ Below w.heap.size w w' := by
  obtain ⟨w1, hr1, hM1⟩ := MIn.first w
  have hM1 := hM1.iff (S' := PS L 0) fun p => ⟨.inl, fun h => by
    rcases h with h | ⟨j, _, hj, _⟩ | ⟨j, m, _, _, _, hj, _⟩
    · exact h
    · exact absurd hj (Nat.not_lt_zero _)
    · exact absurd hj (Nat.not_lt_zero _)⟩
  have hmm := @run_makeMap Tryz.prog
  have hpc := Lib.hid fun W (hW : Below w.heap.size w W) i x hx => pair_cells (h.below hW) (i := i) (x := x) hx
  have hfin := Lib.hid fun W (hM : MIn w W w.heap.size (PS L L.length)) ty => (hM.iff PS.all).len ty
  obtain ⟨n, hn⟩ : ∃ n, n = L.length := ⟨_, rfl⟩
  rw [← hn] at hL ⊢
  replace hn := Lib.hid hn
  replace hz := Lib.hid hz
  replace hM1 := Lib.hid hM1
  clear h
  go_enter Tryz.func38, Tryz.ntmps38
  go_wp2_with fail
  go_loopg [4] n (fun gk v4 wr => ∃ i : Nat, gk = n - i ∧ i ≤ n ∧ v4 = .int .i64 i ∧ MIn w wr w.heap.size (PS L i))
  case atStart => exact ⟨0, rfl, Nat.zero_le _, rfl, hM1.out⟩
  case round =>
    clear hM1
    obtain ⟨i, rfl, hi, rfl, hM⟩ := hrel
    have hB : Below w.heap.size w wr := by obtain ⟨_, _, _, _, _, h4, _⟩ := hM; exact h4
    by_cases hlt : i < n
    · obtain ⟨x, hx⟩ : ∃ x, L[i]? = some x := ⟨_, List.getElem?_eq_getElem (by have := hn.out; omega)⟩
      obtain ⟨b, o, rfl, hb1, hl1, hc1, k0, k1⟩ := hpc.out wr hB i x hx
      obtain ⟨W5, hr5, hM5, hu5⟩ := hM.add x.1
      have hM5 := hM5.iff (S' := PQ L i x 0) PQ.zero
      have hxz := hz.out x (List.mem_of_getElem? hx)
      obtain ⟨p1, q1⟩ := x
      simp only at k0 k1 hr5 hxz
      have g1 : (i : Int) < (n : Int) := by omega
      have g2 : (0 : Int) ≤ (i : Int) := by omega
      have hw1 : IntKind.i64.wrap ((i : Int) + 1) = (i : Int) + 1 := IntWalk.i64_in _ (by omega)
      have hl2 : n ≤ c := by have := hn.out; omega
      replace hl1 := Lib.hid hl1
      replace hM := Lib.hid hM
      replace hM5 := Lib.hid hM5
      replace hx := Lib.hid hx
      replace hu5 := Lib.hid hu5
      replace hB := Lib.hid hB
      go_wp2_with fail
      go_loopg [5] i (fun gk v5 wr => ∃ k : Nat, gk = i - k ∧ k ≤ i ∧ v5 = .int .i64 k ∧ MIn w wr w.heap.size (PQ L i (p1, q1) k))
      case atStart => exact ⟨0, rfl, Nat.zero_le _, rfl, hM5.out⟩
      case round =>
        clear hM5 hr5 k0 k1
        obtain ⟨k, rfl, hk, rfl, hQ⟩ := hrel
        have hB2 : Below w.heap.size w wr := by obtain ⟨_, _, _, _, _, h4, _⟩ := hQ; exact h4
        by_cases hkt : k < i
        · obtain ⟨y, hy⟩ : ∃ y, L[k]? = some y := ⟨_, List.getElem?_eq_getElem (by have := hn.out; omega)⟩
          obtain ⟨b2, o2, eb, _, _, _, j0, j1⟩ := hpc.out wr hB2 k y hy
          injection eb with eb
          injection eb with eb1 eb2
          subst eb1 eb2
          obtain ⟨_, _, eb, hb3, _, _, k0, k1⟩ := hpc.out wr hB2 i (p1, q1) hx.out
          injection eb with eb
          injection eb with eb1 eb2
          subst eb1 eb2
          obtain ⟨_, _, eb, hb0, _, _, _, _⟩ := hpc.out w (Below.refl _ _) i (p1, q1) hx.out
          injection eb with eb
          injection eb with eb1 eb2
          subst eb1 eb2
          have hCm := Lib.hid fun W => rcommon_any p1 y.1 W (by unfold maxLen at hxz; omega)
          have hsl := fun W => slice_pre (W := W) p1 y.1
          obtain ⟨cp, hcp⟩ : ∃ cp, cp = (cpre (bl p1) (bl y.1)).length := ⟨_, rfl⟩
          obtain ⟨cs, hcs⟩ : ∃ cs, cs = bs (cpre (bl p1) (bl y.1)) := ⟨_, rfl⟩
          have hadd : Hid (∀ W, Below wr.heap.size wr W → ∃ W', (Instr.mapUpdate 145 (.map (some w.heap.size)) (.string cs) (.int .i64 1)).run Tryz.prog W = .ok () W' ∧ MIn w W' w.heap.size (PQ L i (p1, q1) (k + 1)) ∧ Upd [w.heap.size] W W') := Lib.hid fun W hW => by
            obtain ⟨W', h1, h2, h3⟩ := (hQ.below hW).add cs
            refine ⟨W', h1, h2.iff fun p => ?_, h3⟩
            rw [hcs, bl_bs]
            exact PQ.succ hy p
          rw [← hcp, ← hcs] at hsl
          rw [← hcp] at hCm
          obtain ⟨p2, q2⟩ := y
          simp only at j0 j1 hCm hsl k0 k1
          have g4 : (k : Int) < (i : Int) := by omega
          have g5 : (0 : Int) ≤ (k : Int) := by omega
          have g6 : (k : Int) < (n : Int) := by omega
          have hw2 : IntKind.i64.wrap ((k : Int) + 1) = (k : Int) + 1 := IntWalk.i64_in _ (by omega)
          have hbr : b ≠ w.heap.size := by omega
          replace hQ := Lib.hid hQ
          replace hB2 := Lib.hid hB2
          replace hy := Lib.hid hy
          replace hcp := Lib.hid hcp
          replace hcs := Lib.hid hcs
          go_upto_region 9 with fail
          go_region_held3 (fun W' => W'.cell? ⟨b, o + i * 2, none⟩ = some (.string p1) ∧ W'.cell? ⟨b, o + k * 2, none⟩ = some (.string p2)) (first | exact ⟨k0, j0⟩ | exact ⟨i1, i2⟩ | exact ⟨i3, i4⟩ | go_keep) (first
            | (go_at_call 65; refine (hCm.out _).mono ?_; rintro z w7 ⟨rfl, hb7⟩; have hb8 : Below wr.heap.size wr w7 := bel_dr (k := 1) hb7; have i1 := keep hb8 k0; have i2 := keep hb8 j0; obtain ⟨W9, hr9, hM9, hu9⟩ := hadd.out w7 hb8; have i3 := hu9.cell i1 (by simpa using hbr); have i4 := hu9.cell i2 (by simpa using hbr); replace hb8 := Lib.hid hb8; replace hb7 := Lib.hid hb7; replace hM9 := Lib.hid hM9; replace hu9 := Lib.hid hu9))
          all_goals
            go_wp2_with fail
            go_roundg (i - (k + 1))
            case rel => exact ⟨k + 1, rfl, by omega, by go_num, hM9.out⟩
            case measure => omega
        · obtain rfl : k = i := by omega
          have hQ := Lib.hid (hQ.iff (PQ.full hx.out))
          go_wp2_with fail
          go_roundg (n - (k + 1))
          case rel => exact ⟨k + 1, rfl, by omega, by go_num, hQ.out⟩
          case measure => omega
    · obtain rfl : i = n := by omega
      have hlen := hfin.out wr (by rw [← hn.out]; exact hM)
      replace hM := Lib.hid hM
      replace hB := Lib.hid hB
      go_wp2_with fail
      go_ret
      exact ⟨rfl, hB.out⟩
end Go.Proofs.YtmhlokomlngdmaaGreat
namespace Go.Proofs.YtmhlokomlngdmaaGreat
open Go.RowKit
set_option maxRecDepth 100000 in
set_option maxHeartbeats 2000000 in
theorem r7get_any (a : Option Addr) (c : Nat) (C : Cont) (key : Str) (w : World) (h : At w 2 pcel a c C) (hC : C.length ≤ 100000) :
    Calls Tryz.prog 33 #[.agg #[.slice a C.length c], .string key] w fun e w' => e = .returned (.tuple #[.string ((cget C key).getD s0), .bool (cget C key).isSome]) ∧ Below w.heap.size w w' := by
  obtain ⟨w1, hw1⟩ : ∃ w1, w1 = w.alloc (.cells #[.slice a C.length c] 37) := ⟨_, rfl⟩
  have hb1 : Below w.heap.size w w1 := by rw [hw1]; exact (Below.refl _ _).alloc (Nat.le_refl _) _
  have hbb : w1.heap[w.heap.size]? = some (.cells #[.slice a C.length c] 37) := by rw [hw1]; exact heap_alloc_new _ _
  have hpc := Lib.hid fun i x hx => pair_cells (h.below hb1) (i := i) (x := x) hx
  clear h
  obtain ⟨n, hn⟩ : ∃ n, n = C.length := ⟨_, rfl⟩
  have x0 : w1.cell? ⟨w.heap.size, 0, none⟩ = some (.slice a n c) := by rw [cell_of_heap hbb, hn]; rfl
  have xq := heap_lt hbb
  rw [← hn] at hC hw1 ⊢
  replace hn := Lib.hid hn
  replace hw1 := Lib.hid hw1
  replace hb1 := Lib.hid hb1
  clear hbb
  go_enter Tryz.func33, Tryz.ntmps33
  go_upto_region 1 with fail
  rw [← hw1.out]
  go_wp2_with fail
  go_loopg [6] n (fun gk v wr => ∃ k : Nat, gk = n - k ∧ k ≤ n ∧ v = .int .i64 k ∧ cget C key = cget (C.drop k) key ∧ w1 = wr)
  case atStart => exact ⟨0, rfl, by omega, rfl, by simp, rfl⟩
  case round =>
    obtain ⟨k, rfl, hk, rfl, hg, hwr⟩ := hrel
    rw [← hwr]
    clear hwr
    by_cases hlt : k < n
    · obtain ⟨x, hx⟩ : ∃ x, C[k]? = some x := ⟨_, List.getElem?_eq_getElem (by have := hn.out; omega)⟩
      obtain ⟨b, o, rfl, hb2, hl1, hc1, k0, k1⟩ := hpc.out k x hx
      have hd : C.drop k = x :: C.drop (k + 1) := by
        obtain ⟨h1, h2⟩ := List.getElem?_eq_some_iff.1 hx
        rw [List.drop_eq_getElem_cons h1, h2]
      rw [hd] at hg
      have hA2 : (k : Int) < (n : Int) := by omega
      have hA3 : (0 : Int) ≤ (k : Int) := by omega
      have hw2 : IntKind.i64.wrap ((k : Int) + 1) = (k : Int) + 1 := IntWalk.i64_in _ (by omega)
      have hl2 : n ≤ c := by have := hn.out; omega
      replace hl1 := Lib.hid hl1
      obtain ⟨p, q⟩ := x
      simp only at k0 k1
      have hbq := str_beq p key
      by_cases hpk : p = key
      · rw [decide_eq_true hpk] at hbq
        have hres : cget C key = some q := by rw [hg]; simp [cget, hpk]
        replace hres := Lib.hid hres
        clear hg hpk hx hd
        go_wp2_with fail
        go_ret2
        exact ⟨by rw [hres.out]; rfl, hb1.out⟩
      · rw [decide_eq_false hpk] at hbq
        have hres : Hid (cget C key = cget (C.drop (k + 1)) key) := Lib.hid (by rw [hg]; simp [cget, hpk])
        clear hg hpk hx hd
        go_wp2_with fail
        go_roundg (n - (k + 1))
        case rel => exact ⟨k + 1, rfl, by omega, by go_num, hres.out, rfl⟩
        case measure => omega
    · obtain rfl : k = n := by omega
      have hres : cget C key = none := by
        rw [hg, List.drop_eq_nil_of_le (by have := hn.out; omega)]
        rfl
      replace hres := Lib.hid hres
      clear hg
      go_wp2_with fail
      go_ret2
      exact ⟨by rw [hres.out]; rfl, hb1.out⟩
/-- A new map. -/
def MapEnd (w : World) (C : Cont) (e : Ending) (w' : World) : Prop := ∃ a c, e = .returned (.agg #[.slice a C.length c]) ∧ Row w.heap.size 57 2 pcel w' (.slice a C.length c) C ∧ Below w.heap.size w w'
theorem cdel_snoc {C : Cont} {k : Nat} {x : Str × Str} {key : Str} (h : C[k]? = some x) : cdel (C.take (k + 1)) key = if x.1 = key then cdel (C.take k) key else cdel (C.take k) key ++ [x] := by
  rw [take_next h]
  unfold cdel
  rw [List.filter_append]
  by_cases e : x.1 = key <;> simp [e]
/-- A map in the making, in a box; the box of the map that it is made of; another one. -/
structure WtI (w : World) (m v : Value) (W : World) (M : Cont) : Prop where
  b0 : W.heap[w.heap.size]? = some (.cells #[m] 37)
  b1 : W.heap[w.heap.size + 1]? = some (.cells #[.slice none 0 0] 37)
  b2 : W.heap[w.heap.size + 2]? = some (.cells #[v] 37)
  row : Row (w.heap.size + 3) 57 2 pcel W v M
  bel : Below w.heap.size w W
theorem WtI.push {w W wa w6 : World} {m v v' : Value} {M M' : Cont} (h : WtI w m v W M) (hA : Below W.heap.size W wa) (hr : Row (w.heap.size + 3) 57 2 pcel w6 v' M') (hu : Upd v.ownBlock.toList wa w6) :
    WtI w m v' (w6.setCell ⟨w.heap.size + 2, 0, none⟩ v') M' ∧ w6.heap[w.heap.size + 2]? = some (.cells #[v] 37) := by
  have hne : ∀ q, q ∈ v.ownBlock.toList → w.heap.size + 3 ≤ q := fun q hq => (h.row.lt q (mem_own hq)).1
  have k0 := hu.heap (Below.heap' hA h.b0) (fun hm => by have := hne _ hm; omega)
  have k1 := hu.heap (Below.heap' hA h.b1) (fun hm => by have := hne _ hm; omega)
  have k2 := hu.heap (Below.heap' hA h.b2) (fun hm => by have := hne _ hm; omega)
  have hs : Upd [w.heap.size + 2] w6 (w6.setCell ⟨w.heap.size + 2, 0, none⟩ v') := (Upd.refl _ _).setCell (p := ⟨w.heap.size + 2, 0, none⟩) (by simp) _
  have hb : Below w.heap.size w w6 := (h.bel.trans (hA.mono h.bel.size)).trans (hu.below (Nat.le_trans h.bel.size hA.size) (fun q hq => by have := hne q hq; omega))
  exact ⟨⟨hs.heap k0 (by simp), hs.heap k1 (by simp), heap_set_same k2 0 _, hr.upd hs (fun b hb => by have := (hr.lt b hb).1; simp; omega), hb.trans (hs.below hb.size (by simp))⟩, k2⟩
set_option maxRecDepth 100000 in
set_option maxHeartbeats 4000000 in
theorem r7without_any (a : Option Addr) (c : Nat) (C : Cont) (key : Str) (w : World) (h : At w 2 pcel a c C) (hC : C.length ≤ 100000) :
    Calls Tryz.prog 62 #[.agg #[.slice a C.length c], .string key] w (MapEnd w (cdel C key)) := by
  obtain ⟨n, hn⟩ : ∃ n, n = C.length := ⟨_, rfl⟩
  obtain ⟨w1, hw1⟩ : ∃ w1, w1 = ((w.alloc (.cells #[.slice a n c] 37)).alloc (.cells #[.slice none 0 0] 37)).alloc (.cells #[.slice none 0 0] 37) := ⟨_, rfl⟩
  have hb1 : Below w.heap.size w w1 := by rw [hw1]; exact (below_two w _ _).alloc (by simp; omega) _
  have hI1 : WtI w (.slice a n c) (.slice none 0 0) w1 (cdel (C.take 0) key) := by
    have h2 := heap_two w (.cells #[.slice a n c] 37) (.cells #[.slice none 0 0] 37)
    refine ⟨by rw [hw1]; exact heap_alloc_old _ h2.1, by rw [hw1]; exact heap_alloc_old _ h2.2, ?_, Row.nil pcel_len pcel_one _ _ _, hb1⟩
    rw [hw1]
    have := heap_alloc_new ((w.alloc (.cells #[.slice a n c] 37)).alloc (.cells #[.slice none 0 0] 37)) (.cells #[.slice none 0 0] 37)
    simpa using this
  have hpc := Lib.hid fun W (hW : Below w.heap.size w W) i x hx => pair_cells (h.below hW) (i := i) (x := x) hx
  obtain ⟨i0, hi0, hzA, hzB, hzC⟩ := pr_info
  clear h
  rw [← hn] at hC ⊢
  replace hn := Lib.hid hn
  replace hw1 := Lib.hid hw1
  replace hb1 := Lib.hid hb1
  replace hI1 := Lib.hid hI1
  go_enter Tryz.func62, Tryz.ntmps62
  go_upto_region 2 with fail
  rw [← hw1.out]
  go_wp2_with fail
  go_loopg [6] n (fun gk v6 wr => ∃ (k : Nat) (v : Value), gk = n - k ∧ k ≤ n ∧ v6 = .int .i64 k ∧ WtI w (.slice a n c) v wr (cdel (C.take k) key))
  case atStart => exact ⟨0, _, rfl, by omega, rfl, hI1.out⟩
  case round =>
    clear hI1
    obtain ⟨k, v, rfl, hk, rfl, hI⟩ := hrel
    obtain ⟨va, vc, rfl⟩ := hI.row.shape
    have x0 : wr.cell? ⟨w.heap.size, 0, none⟩ = some (.slice a n c) := by rw [cell_of_heap hI.b0]; rfl
    have x2 : wr.cell? ⟨w.heap.size + 2, 0, none⟩ = some (.slice va (cdel (C.take k) key).length vc) := by rw [cell_of_heap hI.b2]; rfl
    have x1 : wr.cell? ⟨w.heap.size + 1, 0, none⟩ = some (.slice none 0 0) := by rw [cell_of_heap hI.b1]; rfl
    have q0 := heap_lt hI.b0
    have q1 := heap_lt hI.b1
    have q2 := heap_lt hI.b2
    by_cases hlt : k < n
    · obtain ⟨x, hx⟩ : ∃ x, C[k]? = some x := ⟨_, List.getElem?_eq_getElem (by have := hn.out; omega)⟩
      obtain ⟨b, o, rfl, hb2, hl1, hc1, k0, k1⟩ := hpc.out wr hI.bel k x hx
      have hsn := cdel_snoc (key := key) hx
      have hll : (cdel (C.take k) key).length ≤ k := by
        have h1 : (cdel (C.take k) key).length ≤ (C.take k).length := List.length_filter_le _ _
        rw [List.length_take] at h1
        omega
      obtain ⟨M, hM⟩ : ∃ M, M = cdel (C.take k) key := ⟨_, rfl⟩
      rw [← hM] at hI hsn hll x2
      clear hM
      have hA2 : (k : Int) < (n : Int) := by omega
      have hA3 : (0 : Int) ≤ (k : Int) := by omega
      have hw2 : IntKind.i64.wrap ((k : Int) + 1) = (k : Int) + 1 := IntWalk.i64_in _ (by omega)
      have hl2 : n ≤ c := by have := hn.out; omega
      replace hl1 := Lib.hid hl1
      obtain ⟨p, q⟩ := x
      simp only at k0 k1 hsn
      have hbe := str_beq p key
      by_cases hpk : p = key
      · rw [decide_eq_true hpk] at hbe
        rw [if_pos hpk] at hsn
        have hI2 := Lib.hid (hsn ▸ hI)
        replace hI := Lib.hid hI
        clear hpk hx hsn
        go_wp2_with fail
        go_roundg (n - (k + 1))
        case rel => exact ⟨k + 1, _, rfl, by omega, by go_num, hI2.out⟩
        case measure => omega
      · rw [decide_eq_false hpk] at hbe
        rw [if_neg hpk] at hsn
        obtain ⟨wa, hwa⟩ : ∃ wa, wa = (wr.alloc (.cells #[.string p, .string q] 57)).drew := ⟨_, rfl⟩
        have hAl : Below wr.heap.size wr wa := by rw [hwa]; exact ((Below.refl wr.heap.size wr).alloc (Nat.le_refl _) _).drew
        have hrow := hI.row.below hAl
        have hsrc : SrcOf wa (.slice (some ⟨wr.heap.size, 0, none⟩) 1 1) 1 2 ([(p, q)].flatMap pcel) := by rw [hwa]; exact (SrcOf.one wr 57 (pcel (p, q)) (pcel_one _)).below (drew_bel _)
        have hlm : Hid (M.length + [(p, q)].length ≤ maxLen) := Lib.hid (by unfold maxLen; simp only [List.length_singleton]; omega)
        have hly : Hid ((M.length + [(p, q)].length) * 32 ≤ 140737488355328) := Lib.hid (by simp only [List.length_singleton]; omega)
        have hbb : Hid (w.heap.size + 3 ≤ wa.heap.size) := Lib.hid (by have := hAl.size; omega)
        have hfin : Hid (∀ v' w6, Row (w.heap.size + 3) 57 2 pcel w6 v' (M ++ [(p, q)]) → Upd (Value.slice va M.length vc).ownBlock.toList wa w6 →
            WtI w (.slice (some ⟨b, o, none⟩) n c) v' (w6.setCell ⟨w.heap.size + 2, 0, none⟩ v') (cdel (C.take (k + 1)) key) ∧ w6.cell? ⟨w.heap.size + 2, 0, none⟩ = some (.slice va M.length vc) ∧ w.heap.size + 2 < w6.heap.size ∧ ∀ i, w6.frozen? ⟨w.heap.size + 2, i, none⟩ = false) := Lib.hid fun v' w6 hr hu => by
          obtain ⟨h1, h2⟩ := hI.push hAl hr hu
          exact ⟨by rw [hsn]; exact h1, by rw [cell_of_heap h2]; rfl, heap_lt h2, fun i => frozen_of_heap h2 i⟩
        replace hI := Lib.hid hI
        replace hAl := Lib.hid hAl
        replace hrow := Lib.hid hrow
        replace hsrc := Lib.hid hsrc
        replace hwa := Lib.hid hwa
        replace hsn := Lib.hid hsn
        replace hx := Lib.hid hx
        clear hpk
        go_upto_region 6 with fail
        go_region_law (first | (rw [← hwa.out]; refine step_append_row (f := pcel) (M := [(p, q)]) _ rfl _ _ 35 rfl (w.heap.size + 3) 57 i0 (.agg #[.string ⟨#[]⟩, .string ⟨#[]⟩]) 2 32 Tryz.underlying35 hi0 hzA hzB hzC rfl (Nat.zero_lt_succ 1) (.slice va M.length vc) M rfl hrow.out (.slice (some ⟨wr.heap.size, 0, none⟩) 1 1) rfl hsrc.out hlm.out hly.out hbb.out ?_; intro a' c' w6 hrowN hu6 hat6; obtain ⟨hf6, oc6, oq6, of6⟩ := hfin.out _ _ hrowN hu6; replace hf6 := Lib.hid hf6; replace hrowN := Lib.hid hrowN; replace hu6 := Lib.hid hu6; replace hat6 := Lib.hid hat6))
        all_goals
          go_wp2_with fail
          go_roundg (n - (k + 1))
          case rel => exact ⟨k + 1, _, rfl, by omega, by go_num, hf6.out⟩
          case measure => omega
    · obtain rfl : k = n := by omega
      have hLt : C.take k = C := List.take_of_length_le (by have := hn.out; omega)
      rw [hLt] at hI x2
      have f1 := fun i => frozen_of_heap hI.b1 i
      have hs := heap_set_same hI.b1 0 (.slice va (cdel C key).length vc)
      have hu : Upd [w.heap.size + 1] wr (wr.setCell ⟨w.heap.size + 1, 0, none⟩ (.slice va (cdel C key).length vc)) := (Upd.refl _ _).setCell (p := ⟨w.heap.size + 1, 0, none⟩) (by simp) _
      have y1 : (wr.setCell ⟨w.heap.size + 1, 0, none⟩ (.slice va (cdel C key).length vc)).cell? ⟨w.heap.size + 1, 0, none⟩ = some (.slice va (cdel C key).length vc) := by rw [cell_of_heap hs]; rfl
      have hfin : Hid (MapEnd w (cdel C key) (.returned (.agg #[.slice va (cdel C key).length vc])) (wr.setCell ⟨w.heap.size + 1, 0, none⟩ (.slice va (cdel C key).length vc))) := Lib.hid
        ⟨_, _, rfl, (hI.row.upd hu (fun q hq => by have := (hI.row.lt q hq).1; simp; omega)).rebase (fun q hq => by have := (hI.row.lt q hq).1; omega), hI.bel.trans (hu.below hI.bel.size (by simp))⟩
      replace hI := Lib.hid hI
      replace hu := Lib.hid hu
      replace hs := Lib.hid hs
      clear hLt
      go_wp2_with fail
      refine bodyPost_ret (v := .agg #[.slice va (cdel C key).length vc]) (by simp [results, Tryz.results62, go_sem, y1]) rfl hfin.out
/-- With, in the document's list: without the key, then it. -/
def cwith (C : Cont) (key v : Str) : Cont := cdel C key ++ [(key, v)]
set_option maxRecDepth 100000 in
set_option maxHeartbeats 4000000 in
theorem r7with_any (a : Option Addr) (c : Nat) (C : Cont) (key value : Str) (w : World) (h : At w 2 pcel a c C) (hC : C.length ≤ 100000) :
    Calls Tryz.prog 61 #[.agg #[.slice a C.length c], .string key, .string value] w (MapEnd w (cwith C key value)) := by
  obtain ⟨n, hn⟩ : ∃ n, n = C.length := ⟨_, rfl⟩
  obtain ⟨w1, hw1⟩ : ∃ w1, w1 = (w.alloc (.cells #[.slice a n c] 37)).alloc (.cells #[.slice none 0 0] 37) := ⟨_, rfl⟩
  have h2 := heap_two w (.cells #[.slice a n c] 37) (.cells #[.slice none 0 0] 37)
  have hb1 := below_two w (.cells #[.slice a n c] 37) (.cells #[.slice none 0 0] 37)
  rw [← hw1] at h2 hb1
  have hsz1 : w1.heap.size = w.heap.size + 2 := by rw [hw1]; simp
  have x0 : w1.cell? ⟨w.heap.size, 0, none⟩ = some (.slice a n c) := by rw [cell_of_heap h2.1]; rfl
  have q0 := heap_lt h2.1
  have hWo := r7without_any a c C key w1 (h.below hb1) hC
  obtain ⟨i0, hi0, hzA, hzB, hzC⟩ := pr_info
  have hll : (cdel C key).length ≤ 100000 := Nat.le_trans (List.length_filter_le _ _) hC
  clear h
  obtain ⟨M, hM⟩ : ∃ M, M = cdel C key := ⟨_, rfl⟩
  unfold cwith
  rw [← hM] at hWo hll ⊢
  rw [← hn] at hC hWo ⊢
  replace hn := Lib.hid hn
  replace hw1 := Lib.hid hw1
  replace hb1 := Lib.hid hb1
  replace h2 := Lib.hid h2
  replace hM := Lib.hid hM
  go_enter Tryz.func61, Tryz.ntmps61
  go_upto_region 1 with fail
  rw [← hw1.out]
  go_wp2_with fail
  refine hWo.mono ?_
  clear hWo
  rintro e w2 ⟨a2, c2, rfl, hr2, hb2⟩
  obtain ⟨w3, hw3⟩ : ∃ w3, w3 = w2.alloc (.cells #[.slice a2 M.length c2] 37) := ⟨_, rfl⟩
  have hb3 : Below w2.heap.size w2 w3 := by rw [hw3]; exact (Below.refl _ _).alloc (Nat.le_refl _) _
  have h7 : w3.heap[w2.heap.size]? = some (.cells #[.slice a2 M.length c2] 37) := by rw [hw3]; exact heap_alloc_new _ _
  have hB13 : Below w1.heap.size w1 w3 := hb2.trans (hb3.mono hb2.size)
  have h6 := Below.heap' hB13 h2.out.2
  have hr3 := hr2.below hb3
  obtain ⟨wa, hwa⟩ : ∃ wa, wa = w3.alloc (.cells #[.string key, .string value] 57) := ⟨_, rfl⟩
  have hA5 : Below w3.heap.size w3 wa := by rw [hwa]; exact (Below.refl _ _).alloc (Nat.le_refl _) _
  have hsrc : SrcOf wa (.slice (some ⟨w3.heap.size, 0, none⟩) 1 1) 1 2 ([(key, value)].flatMap pcel) := by rw [hwa]; exact SrcOf.one w3 57 (pcel (key, value)) (pcel_one _)
  have hrow := hr3.below hA5
  have hlm : Hid (M.length + [(key, value)].length ≤ maxLen) := Lib.hid (by unfold maxLen; simp only [List.length_singleton]; omega)
  have hly : Hid ((M.length + [(key, value)].length) * 32 ≤ 140737488355328) := Lib.hid (by simp only [List.length_singleton]; omega)
  have hbb : Hid (w1.heap.size ≤ wa.heap.size) := Lib.hid (Nat.le_trans hB13.size hA5.size)
  have x7 : w3.cell? ⟨w2.heap.size, 0, none⟩ = some (.slice a2 M.length c2) := by rw [cell_of_heap h7]; rfl
  have q7 := heap_lt h7
  have h12 := hb2.size
  have h3a := hA5.size
  have hfin : Hid (∀ v' w6, Row w1.heap.size 57 2 pcel w6 v' (M ++ [(key, value)]) → Upd (Value.slice a2 M.length c2).ownBlock.toList wa w6 → (v'.ownBlock = (Value.slice a2 M.length c2).ownBlock ∨ v'.ownBlock = some wa.heap.size) →
      (w6.cell? ⟨w2.heap.size, 0, none⟩ = some (.slice a2 M.length c2) ∧ w2.heap.size < w6.heap.size ∧ (∀ i, w6.frozen? ⟨w2.heap.size, i, none⟩ = false)) ∧
      ((w6.setCell ⟨w2.heap.size, 0, none⟩ v').cell? ⟨w2.heap.size, 0, none⟩ = some v' ∧ (w6.setCell ⟨w2.heap.size, 0, none⟩ v').cell? ⟨w.heap.size + 1, 0, none⟩ = some (.slice none 0 0) ∧ w.heap.size + 1 < w6.heap.size ∧ (∀ i, (w6.setCell ⟨w2.heap.size, 0, none⟩ v').frozen? ⟨w.heap.size + 1, i, none⟩ = false)) ∧
      ((w6.setCell ⟨w2.heap.size, 0, none⟩ v').setCell ⟨w.heap.size + 1, 0, none⟩ v').cell? ⟨w.heap.size + 1, 0, none⟩ = some v' ∧
      Row w.heap.size 57 2 pcel ((w6.setCell ⟨w2.heap.size, 0, none⟩ v').setCell ⟨w.heap.size + 1, 0, none⟩ v') v' (M ++ [(key, value)]) ∧ Below w.heap.size w ((w6.setCell ⟨w2.heap.size, 0, none⟩ v').setCell ⟨w.heap.size + 1, 0, none⟩ v')) := Lib.hid fun v' w6 hr hu ho => by
    have hlt : ∀ q, q ∈ (Value.slice a2 M.length c2).ownBlock.toList → w1.heap.size ≤ q ∧ q < w2.heap.size := fun q hq => hr2.lt q (mem_own hq)
    have k7 := hu.heap (Below.heap' hA5 h7) (fun hm => by have := hlt _ hm; omega)
    have k6 := hu.heap (Below.heap' hA5 h6) (fun hm => by have := hlt _ hm; omega)
    have s7 := heap_set_same k7 0 v'
    have u7 : Upd [w2.heap.size] w6 (w6.setCell ⟨w2.heap.size, 0, none⟩ v') := (Upd.refl _ _).setCell (p := ⟨w2.heap.size, 0, none⟩) (by simp) _
    have s6 := u7.heap k6 (by simp; omega)
    have s8 := heap_set_same s6 0 v'
    have u8 : Upd [w.heap.size + 1] (w6.setCell ⟨w2.heap.size, 0, none⟩ v') ((w6.setCell ⟨w2.heap.size, 0, none⟩ v').setCell ⟨w.heap.size + 1, 0, none⟩ v') := (Upd.refl _ _).setCell (p := ⟨w.heap.size + 1, 0, none⟩) (by simp) _
    have hob : ∀ q, v'.ownBlock = some q → w1.heap.size ≤ q ∧ q ≠ w2.heap.size := fun q hq => by
      refine ⟨(hr.lt q hq).1, ?_⟩
      rcases ho with ho | ho
      · rw [ho] at hq
        have := (hr2.lt q hq).2
        omega
      · rw [ho] at hq
        injection hq with hq
        have := heap_lt h7
        omega
    have hBa : Below w.heap.size w wa := hb1.out.trans ((hB13.trans (hA5.mono hB13.size)).mono hb1.out.size)
    have hB6 : Below w.heap.size w w6 := hBa.trans (hu.below hBa.size (fun q hq => by have := hlt q hq; omega))
    have hB7 : Below w.heap.size w (w6.setCell ⟨w2.heap.size, 0, none⟩ v') := hB6.trans (u7.below hB6.size (by simp; omega))
    refine ⟨⟨by rw [cell_of_heap k7]; rfl, heap_lt k7, fun i => frozen_of_heap k7 i⟩, ⟨by rw [cell_of_heap s7]; rfl, by rw [cell_of_heap s6]; rfl, heap_lt k6, fun i => frozen_of_heap s6 i⟩, by rw [cell_of_heap s8]; rfl, ?_, hB7.trans (u8.below hB7.size (by simp))⟩
    exact ((hr.upd u7 (fun q hq => by have := hob q hq; simp; omega)).upd u8 (fun q hq => by have := hob q hq; simp; omega)).rebase (fun q hq => by have := hob q hq; omega)
  replace h7 := Lib.hid h7
  replace h6 := Lib.hid h6
  replace hb3 := Lib.hid hb3
  replace hB13 := Lib.hid hB13
  replace hr2 := Lib.hid hr2
  replace hr3 := Lib.hid hr3
  replace hb2 := Lib.hid hb2
  replace hA5 := Lib.hid hA5
  replace hsrc := Lib.hid hsrc
  replace hrow := Lib.hid hrow
  replace hw3 := Lib.hid hw3
  replace hwa := Lib.hid hwa
  go_upto_region 2 with fail
  rw [← hw3.out]
  go_wp2_with (at_builtin; rw [← hwa.out]; refine wpList_append_row (f := pcel) (M := [(key, value)]) _ rfl _ _ 35 rfl w1.heap.size 57 i0 (.agg #[.string ⟨#[]⟩, .string ⟨#[]⟩]) 2 32 Tryz.underlying35 hi0 hzA hzB hzC rfl (by decide) (.slice a2 M.length c2) M rfl hrow.out (.slice (some ⟨w3.heap.size, 0, none⟩) 1 1) rfl hsrc.out hlm.out hly.out hbb.out ?_; intro a' c' w6 hrow6 hu6 hat6; obtain ⟨⟨f0, f1, f2⟩, ⟨f3, f4, f5, f6⟩, f7, f8, f9⟩ := hfin.out _ _ hrow6 hu6 hat6; simp only [List.length_singleton] at f3 f4 f6 f7 f8 f9; replace f8 := Lib.hid f8; replace f9 := Lib.hid f9; replace hrow6 := Lib.hid hrow6; replace hu6 := Lib.hid hu6; replace hat6 := Lib.hid hat6)
  refine bodyPost_ret (v := .agg #[.slice a' (M.length + 1) c']) (by simp [results, Tryz.results61, go_sem, f7]) rfl ⟨a', c', by simp, ?_, f9.out⟩
  simpa using f8.out
/-- The best of a list in no row: the least that is not below a key, or above it. -/
def BestOf (M : Cont) (key : Str) (after : Bool) : Option (Str × Str) → Prop
  | none => ∀ x : Str × Str, x ∈ M → abv key after x.1 = false
  | some b => b ∈ M ∧ abv key after b.1 = true ∧ ∀ x : Str × Str, x ∈ M → abv key after x.1 = true → slt x.1 b.1 = false
theorem BestOf.skip {M : Cont} {key : Str} {after : Bool} {o : Option (Str × Str)} (h : BestOf M key after o) {x : Str × Str} (hx : abv key after x.1 = false) : BestOf (M ++ [x]) key after o := by
  cases o with
  | none =>
    intro y hy
    rcases List.mem_append.1 hy with h1 | h1
    · exact h y h1
    · rw [List.mem_singleton.1 h1]; exact hx
  | some b =>
    obtain ⟨h1, h2, h3⟩ := h
    refine ⟨List.mem_append.2 (.inl h1), h2, fun y hy hq => ?_⟩
    rcases List.mem_append.1 hy with h4 | h4
    · exact h3 y h4 hq
    · rw [List.mem_singleton.1 h4, hx] at hq; cases hq
theorem BestOf.take {M : Cont} {key : Str} {after : Bool} {o : Option (Str × Str)} (h : BestOf M key after o) {x : Str × Str} (hx : abv key after x.1 = true) (ho : ∀ b, o = some b → slt x.1 b.1 = true) : BestOf (M ++ [x]) key after (some x) := by
  refine ⟨List.mem_append.2 (.inr (List.mem_singleton.2 rfl)), hx, fun y hy hq => ?_⟩
  rcases List.mem_append.1 hy with h4 | h4
  · cases o with
    | none => rw [h y h4] at hq; cases hq
    | some b =>
      obtain ⟨h1, h2, h3⟩ := h
      cases hyx : slt y.1 x.1 with
      | false => rfl
      | true => have := slt_trans hyx (ho b rfl); rw [h3 y h4 hq] at this; cases this
  · rw [List.mem_singleton.1 h4]; exact slt_irrefl _
theorem BestOf.keep {M : Cont} {key : Str} {after : Bool} {b : Str × Str} (h : BestOf M key after (some b)) {x : Str × Str} (hx : slt x.1 b.1 = false) : BestOf (M ++ [x]) key after (some b) := by
  obtain ⟨h1, h2, h3⟩ := h
  refine ⟨List.mem_append.2 (.inl h1), h2, fun y hy hq => ?_⟩
  rcases List.mem_append.1 hy with h4 | h4
  · exact h3 y h4 hq
  · rw [List.mem_singleton.1 h4]; exact hx
/-- Of a list and its row. -/
theorem BestOf.next {M S : Cont} {key : Str} {after : Bool} {o : Option (Str × Str)} (h : BestOf M key after o) (hs : CSort S) (hm : ∀ x, x ∈ M ↔ x ∈ S) : cnext S key after = o := by
  cases o with
  | none =>
    exact find_none fun x hx => h x ((hm x).2 hx)
  | some b =>
    obtain ⟨h1, h2, h3⟩ := h
    obtain ⟨n, hn⟩ := List.getElem?_of_mem ((hm b).1 h1)
    rw [← hn]
    refine cnext_at (fun i p hi hp => ?_) (fun p hp => ?_)
    · cases hq : abv key after p.1 with
      | false => rfl
      | true =>
        have h4 := h3 p ((hm p).2 (List.mem_of_getElem? hp)) hq
        rw [csort_lt hs hi hp hn] at h4
        cases h4
    · rw [hn] at hp
      injection hp with hp
      rw [← hp]; exact h2
theorem abv_lt {key x : Str} {after : Bool} (h : slt x key = true) : abv key after x = false := by
  unfold abv
  split
  · exact slt_asymm h
  · simp [sle, h]
theorem abv_eq {key : Str} : abv key true key = false := by
  unfold abv
  rw [if_pos rfl]; exact slt_irrefl _
theorem abv_ge {key x : Str} {after : Bool} (h : slt x key = false) (hn : ¬ (after = true ∧ x = key)) : abv key after x = true := by
  unfold abv
  split
  · rename_i ha
    cases hk : slt key x with
    | true => rfl
    | false => exact absurd ⟨ha, slt_eq h hk⟩ hn
  · simp [sle, h]
def ansC (o : Option (Str × Str)) : Array Value := #[.int .i64 0, .bool o.isSome, .string (fK o), .string (fX o)]
structure NxI (w : World) (m : Value) (o : Option (Str × Str)) (W : World) : Prop where
  b0 : W.heap[w.heap.size]? = some (.cells #[m] 37)
  b1 : W.heap[w.heap.size + 1]? = some (.cells (ansC none) 87)
  b2 : W.heap[w.heap.size + 2]? = some (.cells (ansC o) 87)
  bel : Below w.heap.size w W
theorem NxI.below {w W W' : World} {m : Value} {o : Option (Str × Str)} (h : NxI w m o W) (hb : Below W.heap.size W W') : NxI w m o W' := ⟨Below.heap' hb h.b0, Below.heap' hb h.b1, Below.heap' hb h.b2, h.bel.trans (hb.mono h.bel.size)⟩
theorem ans_stored {w : World} {q : Nat} {a b c d : Value} (h : w.heap[q]? = some (.cells #[a, b, c, d] 87)) (x y z u : Value) :
    ((((w.setCell ⟨q, 0, none⟩ x).setCell ⟨q, 1, none⟩ y).setCell ⟨q, 2, none⟩ z).setCell ⟨q, 3, none⟩ u).heap[q]? = some (.cells #[x, y, z, u] 87) ∧
    Upd [q] w ((((w.setCell ⟨q, 0, none⟩ x).setCell ⟨q, 1, none⟩ y).setCell ⟨q, 2, none⟩ z).setCell ⟨q, 3, none⟩ u) := by
  have h0 : (w.setCell ⟨q, 0, none⟩ x).heap[q]? = some (.cells #[x, b, c, d] 87) := heap_set_same h 0 _
  have h1 : ((w.setCell ⟨q, 0, none⟩ x).setCell ⟨q, 1, none⟩ y).heap[q]? = some (.cells #[x, y, c, d] 87) := heap_set_same h0 1 _
  have h2 : (((w.setCell ⟨q, 0, none⟩ x).setCell ⟨q, 1, none⟩ y).setCell ⟨q, 2, none⟩ z).heap[q]? = some (.cells #[x, y, z, d] 87) := heap_set_same h1 2 _
  refine ⟨heap_set_same h2 3 _, ?_⟩
  iterate 4 refine Upd.setCell ?_ (by simp) _
  exact Upd.refl _ _
/-- The best so far is written. -/
theorem NxI.set {w W : World} {m : Value} {o : Option (Str × Str)} (h : NxI w m o W) (p q : Str) : NxI w m (some (p, q)) ((((W.setCell ⟨w.heap.size + 2, 0, none⟩ (.int .i64 0)).setCell ⟨w.heap.size + 2, 1, none⟩ (.bool true)).setCell ⟨w.heap.size + 2, 2, none⟩ (.string p)).setCell ⟨w.heap.size + 2, 3, none⟩ (.string q)) := by
  obtain ⟨h1, h2⟩ := ans_stored h.b2 (.int .i64 0) (.bool true) (.string p) (.string q)
  exact ⟨h2.heap h.b0 (by simp), h2.heap h.b1 (by simp), h1, h.bel.trans (h2.below h.bel.size (by simp))⟩
theorem NxI.fin {w W : World} {m : Value} {o : Option (Str × Str)} (h : NxI w m o W) (x y z u : Value) : ((((W.setCell ⟨w.heap.size + 1, 0, none⟩ x).setCell ⟨w.heap.size + 1, 1, none⟩ y).setCell ⟨w.heap.size + 1, 2, none⟩ z).setCell ⟨w.heap.size + 1, 3, none⟩ u).heap[w.heap.size + 1]? = some (.cells #[x, y, z, u] 87) ∧ Below w.heap.size w ((((W.setCell ⟨w.heap.size + 1, 0, none⟩ x).setCell ⟨w.heap.size + 1, 1, none⟩ y).setCell ⟨w.heap.size + 1, 2, none⟩ z).setCell ⟨w.heap.size + 1, 3, none⟩ u) := by
  obtain ⟨h1, h2⟩ := ans_stored h.b1 x y z u
  exact ⟨h1, h.bel.trans (h2.below h.bel.size (by simp))⟩
def ansV (o : Option (Str × Str)) : Value := .agg #[.int .i64 0, .bool o.isSome, .string (fK o), .string (fX o)]
set_option maxRecDepth 100000 in
set_option maxHeartbeats 8000000 in
theorem r7next_any (a : Option Addr) (c : Nat) (C : Cont) (key : Str) (after : Bool) (w : World) (h : At w 2 pcel a c C) (hC : C.length ≤ 100000) (hkm : key.size ≤ maxLen) (hz : ∀ x : Str × Str, x ∈ C → x.1.size ≤ maxLen) :
    Calls Tryz.prog 43 #[.agg #[.slice a C.length c], .string key, .bool after] w fun e w' => ∃ o, BestOf C key after o ∧ e = .returned (ansV o) ∧ Below w.heap.size w w' := by
  obtain ⟨n, hn⟩ : ∃ n, n = C.length := ⟨_, rfl⟩
  obtain ⟨w1, hw1⟩ : ∃ w1, w1 = ((w.alloc (.cells #[.slice a n c] 37)).alloc (.cells #[.int .i64 0, .bool false, .string ⟨#[]⟩, .string ⟨#[]⟩] 87)).alloc (.cells #[.int .i64 0, .bool false, .string ⟨#[]⟩, .string ⟨#[]⟩] 87) := ⟨_, rfl⟩
  have hb1 : Below w.heap.size w w1 := by rw [hw1]; exact (below_two w _ _).alloc (by simp; omega) _
  have hI1 : NxI w (.slice a n c) none w1 := by
    have h2 := heap_two w (.cells #[.slice a n c] 37) (.cells #[.int .i64 0, .bool false, .string ⟨#[]⟩, .string ⟨#[]⟩] 87)
    refine ⟨by rw [hw1]; exact heap_alloc_old _ h2.1, by rw [hw1]; exact heap_alloc_old _ h2.2, ?_, hb1⟩
    rw [hw1]
    have := heap_alloc_new ((w.alloc (.cells #[.slice a n c] 37)).alloc (.cells #[.int .i64 0, .bool false, .string ⟨#[]⟩, .string ⟨#[]⟩] 87)) (.cells #[.int .i64 0, .bool false, .string ⟨#[]⟩, .string ⟨#[]⟩] 87)
    have hsz : ((w.alloc (.cells #[.slice a n c] 37)).alloc (.cells #[.int .i64 0, .bool false, .string ⟨#[]⟩, .string ⟨#[]⟩] 87)).heap.size = w.heap.size + 2 := by simp
    rw [hsz] at this
    exact this
  have hpc := Lib.hid fun W (hW : Below w.heap.size w W) i x hx => pair_cells (h.below hW) (i := i) (x := x) hx
  clear h
  rw [← hn] at hC ⊢
  replace hn := Lib.hid hn
  replace hz := Lib.hid hz
  replace hw1 := Lib.hid hw1
  replace hb1 := Lib.hid hb1
  replace hI1 := Lib.hid hI1
  have hkm2 := Lib.hid hkm
  go_enter Tryz.func43, Tryz.ntmps43
  go_upto_region 2 with fail
  rw [← hw1.out]
  go_wp2_with fail
  go_loopg [8] n (fun gk v8 wr => ∃ (k : Nat) (o : Option (Str × Str)), gk = n - k ∧ k ≤ n ∧ v8 = .int .i64 k ∧ NxI w (.slice a n c) o wr ∧ BestOf (C.take k) key after o)
  case atStart => exact ⟨0, none, rfl, by omega, rfl, hI1.out, fun x hx => by simp at hx⟩
  case round =>
    clear hI1
    obtain ⟨k, o, rfl, hk, rfl, hI, hBo⟩ := hrel
    have x0 : wr.cell? ⟨w.heap.size, 0, none⟩ = some (.slice a n c) := by rw [cell_of_heap hI.b0]; rfl
    have q0 := heap_lt hI.b0
    by_cases hlt : k < n
    · obtain ⟨x, hx⟩ : ∃ x, C[k]? = some x := ⟨_, List.getElem?_eq_getElem (by have := hn.out; omega)⟩
      obtain ⟨b, od, rfl, hb2, hl1, hc1, k0, k1⟩ := hpc.out wr hI.bel k x hx
      have hls := Lib.hid fun W => less_any x.1 key (.inr hkm2.out) W
      have htk := take_next hx
      have hxz := hz.out x (List.mem_of_getElem? hx)
      obtain ⟨p, q⟩ := x
      simp only at k0 k1 hls hxz
      obtain ⟨w3, hw3⟩ : ∃ w3, w3 = wr.alloc (.cells #[.string p, .string q] 57) := ⟨_, rfl⟩
      have hb3 : Below wr.heap.size wr w3 := by rw [hw3]; exact (Below.refl _ _).alloc (Nat.le_refl _) _
      have hbx : w3.heap[wr.heap.size]? = some (.cells #[.string p, .string q] 57) := by rw [hw3]; exact heap_alloc_new _ _
      obtain ⟨e0, e1, eq, _⟩ := cells2 hbx
      have hA2 : (k : Int) < (n : Int) := by omega
      have hA3 : (0 : Int) ≤ (k : Int) := by omega
      have hw2 : IntKind.i64.wrap ((k : Int) + 1) = (k : Int) + 1 := IntWalk.i64_in _ (by omega)
      have hl2 : n ≤ c := by have := hn.out; omega
      replace hl1 := Lib.hid hl1
      have hI3 := hI.below hb3
      have hl3 := hls.out w3
      replace hw3 := Lib.hid hw3
      replace hb3 := Lib.hid hb3
      replace hbx := Lib.hid hbx
      replace hI3 := Lib.hid hI3
      replace hI := Lib.hid hI
      replace hx := Lib.hid hx
      go_upto_region 6 with fail
      rw [← hw3.out]
      clear k0 k1 x0
      have hbe := str_beq p key
      cases hsl : slt p key with
      | true =>
        rw [hsl] at hl3
        have hnext : Hid (BestOf (C.take (k + 1)) key after o) := Lib.hid (by rw [htk]; exact hBo.skip (abv_lt hsl))
        replace hsl := Lib.hid hsl
        replace htk := Lib.hid htk
        replace hBo := Lib.hid hBo
        go_wp2_with fail
        refine hl3.mono ?_
        clear hl3
        rintro e w4 ⟨rfl, hb4⟩
        have hI4 := Lib.hid (hI3.out.below hb4)
        clear hb4 e0 e1
        go_wp2_with fail
        go_roundg (n - (k + 1))
        case rel => exact ⟨k + 1, o, rfl, by omega, by go_num, hI4.out, hnext.out⟩
        case measure => omega
      | false =>
        rw [hsl] at hl3
        go_cut [34] (fun v wz => v = .bool (after && decide (p = key)) ∧ Below w3.heap.size w3 wz)
        case first =>
          replace hsl := Lib.hid hsl
          replace htk := Lib.hid htk
          replace hBo := Lib.hid hBo
          go_wp2_with fail
          refine hl3.mono ?_
          clear hl3
          rintro e w4 ⟨rfl, hb4⟩
          have f0 := keep hb4 e0
          have fq := Nat.lt_of_lt_of_le eq hb4.size
          replace hb4 := Lib.hid hb4
          clear e0 e1
          cases after with
          | false =>
            go_wp2_with fail
            go_meet
            exact ⟨by simp, hb4.out⟩
          | true =>
            go_wp2_with fail
            go_meet
            exact ⟨by simp, hb4.out⟩
        case rest =>
          obtain ⟨rfl, hb4⟩ := hcut
          obtain ⟨w4, hw4⟩ : ∃ w4, w4 = wc := ⟨_, rfl⟩
          rw [← hw4] at hb4 ⊢
          clear hw4 hl3 hbe
          have hI4 := hI3.out.below hb4
          have f0 := keep hb4 e0
          have f1 := keep hb4 e1
          have fq := Nat.lt_of_lt_of_le eq hb4.size
          have hb34 := Lib.hid hb4
          clear hb4 e0 e1 eq
          cases hv : (after && decide (p = key)) with
          | true =>
            have hnext : Hid (BestOf (C.take (k + 1)) key after o) := Lib.hid (by
              rw [htk]
              refine hBo.skip ?_
              simp only [Bool.and_eq_true, decide_eq_true_eq] at hv
              obtain ⟨h1, h2⟩ := hv
              rw [h1, h2]
              exact abv_eq)
            replace hsl := Lib.hid hsl
            replace htk := Lib.hid htk
            replace hBo := Lib.hid hBo
            replace hI4 := Lib.hid hI4
            replace hv := Lib.hid hv
            go_wp2_with fail
            go_roundg (n - (k + 1))
            case rel => exact ⟨k + 1, o, rfl, by omega, by go_num, hI4.out, hnext.out⟩
            case measure => omega
          | false =>
            have hq : abv key after p = true := abv_ge hsl (fun h => by rw [h.1, h.2] at hv; simp at hv)
            obtain ⟨y0, y1, y2, y3, yq, yf⟩ := cells4 hI4.b2
            have hset := fun W (hW : NxI w (.slice (some ⟨b, od, none⟩) n c) o W) => hW.set p q
            cases o with
            | none =>
              have hnext : Hid (BestOf (C.take (k + 1)) key after (some (p, q))) := Lib.hid (by rw [htk]; exact hBo.take hq (fun b hb => by cases hb))
              have hI5 := Lib.hid (hset w4 hI4)
              replace hsl := Lib.hid hsl
              replace htk := Lib.hid htk
              replace hBo := Lib.hid hBo
              replace hI4 := Lib.hid hI4
              replace hv := Lib.hid hv
              replace hq := Lib.hid hq
              replace hset := Lib.hid hset
              simp only [Option.isSome_none] at y1
              go_wp2_with fail
              go_roundg (n - (k + 1))
              case rel => exact ⟨k + 1, some (p, q), rfl, by omega, by go_num, hI5.out, hnext.out⟩
              case measure => omega
            | some bb =>
              simp only [Option.isSome_some] at y1
              rw [show fK (some bb) = bb.1 from rfl] at y2
              have hlb := less_any p bb.1 (.inl hxz) w4
              cases hlt2 : slt p bb.1 with
              | true =>
                rw [hlt2] at hlb
                have hnext : Hid (BestOf (C.take (k + 1)) key after (some (p, q))) := Lib.hid (by rw [htk]; exact hBo.take hq (fun b hb => by injection hb with hb; rw [← hb]; exact hlt2))
                replace hsl := Lib.hid hsl
                replace htk := Lib.hid htk
                replace hBo := Lib.hid hBo
                replace hI4 := Lib.hid hI4
                replace hv := Lib.hid hv
                replace hq := Lib.hid hq
                replace hset := Lib.hid hset
                replace hlt2 := Lib.hid hlt2
                go_wp2_with fail
                refine hlb.mono ?_
                clear hlb
                rintro e w5 ⟨rfl, hb5⟩
                have g0 := keep hb5 f0
                have g1 := keep hb5 f1
                have gq := Nat.lt_of_lt_of_le fq hb5.size
                have hI5 := hI4.out.below hb5
                obtain ⟨v0, v1, v2, v3, vq, vf⟩ := cells4 hI5.b2
                have hI6 := Lib.hid (hset.out w5 hI5)
                replace hI5 := Lib.hid hI5
                clear hb5 f0 f1 y0 y1 y2 y3 yq yf
                go_wp2_with fail
                go_roundg (n - (k + 1))
                case rel => exact ⟨k + 1, some (p, q), rfl, by omega, by go_num, hI6.out, hnext.out⟩
                case measure => omega
              | false =>
                rw [hlt2] at hlb
                have hnext : Hid (BestOf (C.take (k + 1)) key after (some bb)) := Lib.hid (by rw [htk]; exact hBo.keep hlt2)
                replace hsl := Lib.hid hsl
                replace htk := Lib.hid htk
                replace hBo := Lib.hid hBo
                replace hI4 := Lib.hid hI4
                replace hv := Lib.hid hv
                replace hq := Lib.hid hq
                replace hset := Lib.hid hset
                replace hlt2 := Lib.hid hlt2
                go_wp2_with fail
                refine hlb.mono ?_
                clear hlb
                rintro e w5 ⟨rfl, hb5⟩
                have hI5 := Lib.hid (hI4.out.below hb5)
                clear hb5 f0 f1 y0 y1 y2 y3 yq yf
                go_wp2_with fail
                go_roundg (n - (k + 1))
                case rel => exact ⟨k + 1, some bb, rfl, by omega, by go_num, hI5.out, hnext.out⟩
                case measure => omega
    · obtain rfl : k = n := by omega
      have hLt : C.take k = C := List.take_of_length_le (by have := hn.out; omega)
      rw [hLt] at hBo
      have x2 : wr.cell? ⟨w.heap.size + 2, 0, none⟩ = some (.int .i64 0) := by rw [cell_of_heap hI.b2]; rfl
      have x3 : wr.cell? ⟨w.heap.size + 2, 1, none⟩ = some (.bool o.isSome) := by rw [cell_of_heap hI.b2]; rfl
      have x4 : wr.cell? ⟨w.heap.size + 2, 2, none⟩ = some (.string (fK o)) := by rw [cell_of_heap hI.b2]; rfl
      have x5 : wr.cell? ⟨w.heap.size + 2, 3, none⟩ = some (.string (fX o)) := by rw [cell_of_heap hI.b2]; rfl
      obtain ⟨y0, y1, y2, y3, yq, yf⟩ := cells4 hI.b1
      have q2 := heap_lt hI.b2
      obtain ⟨hf, hfb⟩ := hI.fin (.int .i64 0) (.bool o.isSome) (.string (fK o)) (.string (fX o))
      obtain ⟨z0, z1, z2, z3, zq, zf⟩ := cells4 hf
      replace hf := Lib.hid hf
      replace hfb := Lib.hid hfb
      replace hI := Lib.hid hI
      replace hBo := Lib.hid hBo
      clear hLt
      obtain ⟨oo, hoo⟩ : ∃ oo, oo = o.isSome := ⟨_, rfl⟩
      obtain ⟨ok, hok⟩ : ∃ ok, ok = fK o := ⟨_, rfl⟩
      obtain ⟨ox, hox⟩ : ∃ ox, ox = fX o := ⟨_, rfl⟩
      rw [← hoo] at x3 z0 z1 z2 z3 zf hfb
      rw [← hok] at x4 z0 z1 z2 z3 zf hfb
      rw [← hox] at x5 z0 z1 z2 z3 zf hfb
      replace hoo := Lib.hid hoo
      replace hok := Lib.hid hok
      replace hox := Lib.hid hox
      go_wp2_with fail
      refine bodyPost_ret (v := .agg #[.int .i64 0, .bool oo, .string ok, .string ox]) (by simp [results, Tryz.results43, go_sem, z0, z1, z2, z3]) rfl ⟨o, hBo.out, by rw [hoo.out, hok.out, hox.out]; rfl, hfb.out⟩
structure AlI (w : World) (m : Value) (B : Nat) (o : Option (Str × Str)) (v : Value) (M : Cont) (W : World) : Prop where
  b0 : W.heap[w.heap.size]? = some (.cells #[m] 37)
  b1 : W.heap[B]? = some (.cells (ansC o) 87)
  row : Row (B + 1) 57 2 pcel W v M
  lt : w.heap.size < B
  bel : Below w.heap.size w W
theorem AlI.below {w W W' : World} {m v : Value} {B : Nat} {o : Option (Str × Str)} {M : Cont} (h : AlI w m B o v M W) (hb : Below W.heap.size W W') : AlI w m B o v M W' :=
  ⟨Below.heap' hb h.b0, Below.heap' hb h.b1, h.row.below hb, h.lt, h.bel.trans (hb.mono h.bel.size)⟩
theorem AlI.push {w W wa w6 : World} {m v v' : Value} {B : Nat} {o : Option (Str × Str)} {M M' : Cont} (h : AlI w m B o v M W) (hA : Below W.heap.size W wa) (hr : Row (B + 1) 57 2 pcel w6 v' M') (hu : Upd v.ownBlock.toList wa w6) : AlI w m B o v' M' w6 := by
  have hne : ∀ q, q ∈ v.ownBlock.toList → B + 1 ≤ q := fun q hq => (h.row.lt q (mem_own hq)).1
  have hl := h.lt
  have hb : Below w.heap.size w wa := h.bel.trans (hA.mono h.bel.size)
  exact ⟨hu.heap (Below.heap' hA h.b0) (fun hm => by have := hne _ hm; omega), hu.heap (Below.heap' hA h.b1) (fun hm => by have := hne _ hm; omega), hr, h.lt, hb.trans (hu.below hb.size (fun q hq => by have := hne q hq; omega))⟩
theorem AlI.set {w W : World} {m v : Value} {B : Nat} {o : Option (Str × Str)} {M : Cont} (h : AlI w m B o v M W) (o' : Option (Str × Str)) : AlI w m B o' v M ((((W.setCell ⟨B, 0, none⟩ (.int .i64 0)).setCell ⟨B, 1, none⟩ (.bool o'.isSome)).setCell ⟨B, 2, none⟩ (.string (fK o'))).setCell ⟨B, 3, none⟩ (.string (fX o'))) := by
  obtain ⟨h1, h2⟩ := ans_stored h.b1 (.int .i64 0) (.bool o'.isSome) (.string (fK o')) (.string (fX o'))
  have hl := h.lt
  exact ⟨h2.heap h.b0 (by simp; omega), h1, h.row.upd h2 (fun q hq => by have := (h.row.lt q hq).1; simp; omega), h.lt, h.bel.trans (h2.below h.bel.size (by simp; omega))⟩
set_option maxRecDepth 100000 in
set_option maxHeartbeats 8000000 in
theorem r7all_any (a : Option Addr) (c : Nat) (C S : Cont) (w : World) (h : At w 2 pcel a c C) (hC : C.length ≤ 100000) (hz : ∀ x : Str × Str, x ∈ C → x.1.size ≤ maxLen) (hs : CSort S) (hm : ∀ x, x ∈ C ↔ x ∈ S) (hS : S.length ≤ 100000) :
    Calls Tryz.prog 15 #[.agg #[.slice a C.length c]] w (AllEnd w S) := by
  obtain ⟨n, hn⟩ : ∃ n, n = C.length := ⟨_, rfl⟩
  obtain ⟨w1, hw1⟩ : ∃ w1, w1 = w.alloc (.cells #[.slice a n c] 37) := ⟨_, rfl⟩
  have hb1 : Below w.heap.size w w1 := by rw [hw1]; exact (Below.refl _ _).alloc (Nat.le_refl _) _
  have h1 : w1.heap[w.heap.size]? = some (.cells #[.slice a n c] 37) := by rw [hw1]; exact heap_alloc_new _ _
  have hNx := Lib.hid fun W (hW : Below w.heap.size w W) key after hk => (r7next_any a c C key after W (h.below hW) hC hk hz).mono (fun e w' => show _ → e = .returned (ansV (cnext S key after)) ∧ Below W.heap.size W w' from fun ⟨o, h1, h2, h3⟩ => by rw [h1.next hs hm]; exact ⟨h2, h3⟩)
  clear h
  rw [← hn] at hC hNx ⊢
  have hNx1 := hNx.out w1 hb1 s0 false (by simp [s0])
  rw [cnext_first] at hNx1
  obtain ⟨o0, ho0⟩ : ∃ o0, o0 = S[0]? := ⟨_, rfl⟩
  rw [← ho0] at hNx1
  have x0 : w1.cell? ⟨w.heap.size, 0, none⟩ = some (.slice a n c) := by rw [cell_of_heap h1]; rfl
  have q0 := heap_lt h1
  have hz2 : Hid (∀ x : Str × Str, x ∈ S → x.1.size ≤ maxLen) := Lib.hid fun x hx => hz x ((hm x).2 hx)
  obtain ⟨i0, hi0, hzA, hzB, hzC⟩ := pr_info
  replace hn := Lib.hid hn
  replace hz := Lib.hid hz
  replace hs := Lib.hid hs
  replace hm := Lib.hid hm
  replace hw1 := Lib.hid hw1
  replace hb1 := Lib.hid hb1
  replace h1 := Lib.hid h1
  replace ho0 := Lib.hid ho0
  unfold ansV at hNx1
  go_enter Tryz.func15, Tryz.ntmps15
  go_upto_region 1 with fail
  rw [← hw1.out]
  go_wp2_with fail
  refine hNx1.mono ?_
  clear hNx1
  rintro e w2 ⟨rfl, hb2⟩
  obtain ⟨w3, hw3⟩ : ∃ w3, w3 = w2.alloc (.cells (ansC o0) 87) := ⟨_, rfl⟩
  have hb3 : Below w2.heap.size w2 w3 := by rw [hw3]; exact (Below.refl _ _).alloc (Nat.le_refl _) _
  have hI3 : AlI w (.slice a n c) w2.heap.size (S[0]?) (.slice none 0 0) (S.take 0) w3 :=
    ⟨Below.heap' hb3 (Below.heap' hb2 h1.out), by rw [hw3, ← ho0.out]; exact heap_alloc_new _ _, Row.nil pcel_len pcel_one _ _ _, Nat.lt_of_lt_of_le q0 hb2.size, hb1.out.trans ((hb2.trans (hb3.mono hb2.size)).mono hb1.out.size)⟩
  unfold ansC at hw3
  obtain ⟨B, hB⟩ : ∃ B, B = w2.heap.size := ⟨_, rfl⟩
  rw [← hB] at hI3
  replace hI3 := Lib.hid hI3
  replace hb3 := Lib.hid hb3
  replace hb2 := Lib.hid hb2
  replace hw3 := Lib.hid hw3
  clear x0 q0
  go_upto_block 0 with fail
  rw [← hw3.out, ← hB]
  replace hB := Lib.hid hB
  obtain ⟨sn, hsn⟩ : ∃ sn, sn = S.length := ⟨_, rfl⟩
  rw [← hsn] at hS
  replace hsn := Lib.hid hsn
  go_wp2_with fail
  go_loopg [3] sn (fun gk v3 wr => ∃ k : Nat, gk = sn - k ∧ k ≤ sn ∧ AlI w (.slice a n c) B (S[k]?) v3 (S.take k) wr)
  case atStart => exact ⟨0, rfl, by omega, hI3.out⟩
  case round =>
    clear hI3
    obtain ⟨k, rfl, hk, hI⟩ := hrel
    obtain ⟨va, vc, rfl⟩ := hI.row.shape
    have x0 : wr.cell? ⟨w.heap.size, 0, none⟩ = some (.slice a n c) := by rw [cell_of_heap hI.b0]; rfl
    have q0 := heap_lt hI.b0
    obtain ⟨y0, y1, y2, y3, yq, yf⟩ := cells4 hI.b1
    by_cases hlt : k < sn
    · obtain ⟨x, hx⟩ : ∃ x, S[k]? = some x := ⟨_, List.getElem?_eq_getElem (by have := hsn.out; omega)⟩
      have htk := take_next hx
      have hnx := cnext_next hs.out hx
      have hxz := hz2.out x (List.mem_of_getElem? hx)
      rw [hx] at hI y1 y2 y3
      have hll : (S.take k).length ≤ k := by rw [List.length_take]; omega
      obtain ⟨M, hM⟩ : ∃ M, M = S.take k := ⟨_, rfl⟩
      rw [← hM] at hI htk hll ⊢
      obtain ⟨p, q⟩ := x
      rw [show fK (some (p, q)) = p from rfl] at y2
      rw [show fX (some (p, q)) = q from rfl] at y3
      simp only [Option.isSome_some] at y1
      simp only at hnx hxz
      obtain ⟨wa, hwa⟩ : ∃ wa, wa = wr.alloc (.cells #[.string p, .string q] 57) := ⟨_, rfl⟩
      have hAl : Below wr.heap.size wr wa := by rw [hwa]; exact (Below.refl _ _).alloc (Nat.le_refl _) _
      have hrow := hI.row.below hAl
      have hsrc : SrcOf wa (.slice (some ⟨wr.heap.size, 0, none⟩) 1 1) 1 2 ([(p, q)].flatMap pcel) := by rw [hwa]; exact SrcOf.one wr 57 (pcel (p, q)) (pcel_one _)
      have hlm : Hid (M.length + [(p, q)].length ≤ maxLen) := Lib.hid (by unfold maxLen; simp only [List.length_singleton]; omega)
      have hly : Hid ((M.length + [(p, q)].length) * 32 ≤ 140737488355328) := Lib.hid (by simp only [List.length_singleton]; omega)
      have hbb : Hid (B + 1 ≤ wa.heap.size) := Lib.hid (by have := hAl.size; omega)
      obtain ⟨o', ho'⟩ : ∃ o', o' = S[k + 1]? := ⟨_, rfl⟩
      rw [← ho'] at hnx
      have hfin : Hid (∀ v' w6, Row (B + 1) 57 2 pcel w6 v' (M ++ [(p, q)]) → Upd (Value.slice va M.length vc).ownBlock.toList wa w6 →
          AlI w (.slice a n c) B (some (p, q)) v' (M ++ [(p, q)]) w6 ∧ (w6.cell? ⟨w.heap.size, 0, none⟩ = some (.slice a n c) ∧ w.heap.size < w6.heap.size ∧ w6.cell? ⟨B, 2, none⟩ = some (.string p)) ∧
          Calls Tryz.prog 43 #[.agg #[.slice a n c], .string p, .bool true] w6 fun e w' => e = .returned (ansV o') ∧ Below w6.heap.size w6 w') := Lib.hid fun v' w6 hr hu => by
        have h6 := hI.push hAl hr hu
        refine ⟨h6, ⟨by rw [cell_of_heap h6.b0]; rfl, heap_lt h6.b0, by rw [cell_of_heap h6.b1]; rfl⟩, ?_⟩
        have := hNx.out w6 h6.bel p true hxz
        rw [hnx] at this
        exact this
      replace hI := Lib.hid hI
      replace hAl := Lib.hid hAl
      replace hrow := Lib.hid hrow
      replace hsrc := Lib.hid hsrc
      replace hwa := Lib.hid hwa
      replace hx := Lib.hid hx
      replace hM := Lib.hid hM
      replace htk := Lib.hid htk
      replace hnx := Lib.hid hnx
      replace ho' := Lib.hid ho'
      go_wp2_with (at_builtin; rw [← hwa.out]; refine wpList_append_row (f := pcel) (M := [(p, q)]) _ rfl _ _ 35 rfl (B + 1) 57 i0 (.agg #[.string ⟨#[]⟩, .string ⟨#[]⟩]) 2 32 Tryz.underlying35 hi0 hzA hzB hzC rfl (by decide) (.slice va M.length vc) M rfl hrow.out (.slice (some ⟨wr.heap.size, 0, none⟩) 1 1) rfl hsrc.out hlm.out hly.out hbb.out ?_; intro a' c' w6 hrow6 hu6 hat6; obtain ⟨hI6, ⟨f0, f1, f2⟩, hNx6⟩ := hfin.out _ _ hrow6 hu6; have fq := heap_lt hI6.b1; replace hI6 := Lib.hid hI6; replace hNx6 := Lib.hid hNx6; replace hrow6 := Lib.hid hrow6; replace hu6 := Lib.hid hu6; replace hat6 := Lib.hid hat6)
      refine hNx6.out.mono ?_
      clear hNx6
      rintro e w7 ⟨rfl, hb7⟩
      have hI7 := hI6.out.below hb7
      obtain ⟨v0, v1, v2, v3, vq, vf⟩ := cells4 hI7.b1
      have hI8 := Lib.hid (hI7.set o')
      replace hI7 := Lib.hid hI7
      obtain ⟨oo, hoo⟩ : ∃ oo, oo = o'.isSome := ⟨_, rfl⟩
      obtain ⟨ok, hok⟩ : ∃ ok, ok = fK o' := ⟨_, rfl⟩
      obtain ⟨ox, hox⟩ : ∃ ox, ox = fX o' := ⟨_, rfl⟩
      unfold ansV
      rw [← hoo, ← hok, ← hox] at hI8 ⊢
      replace hoo := Lib.hid hoo
      replace hok := Lib.hid hok
      replace hox := Lib.hid hox
      clear hb7 f0 f1 f2 fq y0 y1 y2 y3 yq yf x0 q0
      go_wp2_with fail
      go_roundg (sn - (k + 1))
      case rel =>
        refine ⟨k + 1, rfl, by omega, ?_⟩
        rw [← ho'.out, htk.out]
        simpa using hI8.out
      case measure => omega
    · obtain rfl : k = sn := by omega
      have hno : S[k]? = none := List.getElem?_eq_none (by have := hsn.out; omega)
      have hLt : S.take k = S := List.take_of_length_le (by have := hsn.out; omega)
      rw [hno] at y1
      simp only [Option.isSome_none] at y1
      have hfin : Hid (AllEnd w S (.returned (.slice va (S.take k).length vc)) wr) := Lib.hid (by
        rw [hLt] at hI ⊢
        have hl := hI.lt
        exact ⟨va, vc, rfl, hI.row.rebase (fun q hq => by have := (hI.row.lt q hq).1; omega), hI.bel⟩)
      replace hI := Lib.hid hI
      clear hLt hno
      go_wp2_with fail
      go_ret
      exact hfin.out
end Go.Proofs.YtmhlokomlngdmaaGreat
