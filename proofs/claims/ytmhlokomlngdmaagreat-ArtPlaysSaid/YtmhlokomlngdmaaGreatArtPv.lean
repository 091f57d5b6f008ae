/- The document's list beside the trie's row: plain. ArtPlays: a pool with a trie and an arena of ints, the law's pair, its handles, the document's tree: what is called leaves them in step. A slice of handles of the law's own, to which handles are appended and of which the first one is taken off. ArtPlays: what others do in the pool, and what the document's tree does, in the law's world. -/
import Derived.Test.YtmhlokomlngdmaaGreatArtMp
import Derived.Test.YtmhlokomlngdmaaGreatArtPz
import Derived.Test.YtmhlokomlngdmaaGreatArtDp
import Derived.Test.YtmhlokomlngdmaaGreatArenaOfPInt
import Derived.Deep.AppendSrc
namespace Go.Proofs.YtmhlokomlngdmaaGreat
open Go.RowKit
theorem nodesN_mem {C S : Cont} (hm : ∀ x, x ∈ C ↔ x ∈ S) : nodesN C = nodesN S := by
  unfold nodesN
  refine ((List.perm_ext_iff_of_nodup (nodup_dd _) (nodup_dd _)).2 fun p => ?_).length_eq
  rw [mem_dd, mem_dd, mem_keyPaths, mem_keyPaths]
  simp only [hm]
theorem cdel_perm {C S : Cont} (h : C.Perm S) (k : Str) : (cdel C k).Perm (cdel S k) := h.filter _
theorem cget_perm {C S : Cont} (h : C.Perm S) (hs : CSort S) (k : Str) : cget C k = cget S k := by
  cases hc : cget C k with
  | none =>
    refine ((cget_none_iff hs).2 fun v hv => ?_).symm
    unfold cget at hc
    rw [Option.map_eq_none_iff, List.find?_eq_none] at hc
    exact hc _ (h.mem_iff.2 hv) (by simp)
  | some v =>
    refine ((cget_iff hs).2 ?_).symm
    unfold cget at hc
    rw [Option.map_eq_some_iff] at hc
    obtain ⟨p, hp, hv⟩ := hc
    have h1 := List.mem_of_find?_eq_some hp
    have h2 := List.find?_some hp
    simp only [decide_eq_true_eq] at h2
    rw [← hv, ← h2]
    exact h.mem_iff.1 h1
theorem cput_perm (S : Cont) (k v : Str) : (cdel S k ++ [(k, v)]).Perm (cput S k v) := by
  have h1 := List.filter_append_perm (fun p : Str × Str => slt p.1 k) (cdel S k)
  have e1 : (cdel S k).filter (fun p => slt p.1 k) = S.filter fun p => slt p.1 k := by
    unfold cdel
    rw [List.filter_filter]
    refine List.filter_congr fun x _ => ?_
    cases h : slt x.1 k with
    | false => simp
    | true => simp [slt_ne h]
  have e2 : (cdel S k).filter (fun p => !slt p.1 k) = S.filter fun p => slt k p.1 := by
    unfold cdel
    rw [List.filter_filter]
    refine List.filter_congr fun x _ => ?_
    cases h : slt k x.1 with
    | true => simp [slt_asymm h, (slt_ne h).symm]
    | false =>
      cases h2 : slt x.1 k with
      | true => simp
      | false => simp [slt_eq h2 h]
  rw [e1, e2] at h1
  unfold cput
  refine (List.Perm.append_right [(k, v)] h1.symm).trans ?_
  rw [List.append_assoc]
  exact List.Perm.append_left _ List.perm_append_comm
theorem cwith_perm {C S : Cont} (h : C.Perm S) (k v : Str) : (cwith C k v).Perm (cput S k v) := ((cdel_perm h k).append_right _).trans (cput_perm S k v)
end Go.Proofs.YtmhlokomlngdmaaGreat
namespace Go.Proofs.YtmhlokomlngdmaaGreat
open Go.RowKit
theorem handi_info : ∃ i0 : TypeInfo, Tryz.prog.info? 77 = some i0 ∧ i0.zero = some (.agg #[.int .i64 0, .int .u64 0]) ∧ i0.size = 2 ∧ i0.bytes = 16 := info_parts (show (Tryz.prog.info? 77).map (fun i => (i.zero, i.size, i.bytes)) = some (some (.agg #[.int .i64 0, .int .u64 0]), 2, 16) by kernel_rfl)
structure Oth (w : World) (ρ : Nat → Nat) (a : Option Addr) (c : Nat) (H : List Hd) : Prop where
  le : H.length ≤ c
  mx : c ≤ maxLen
  wh : (a = none ∧ c = 0) ∨ ∃ b off, a = some ⟨b, off, none⟩ ∧ ρ b = 8 ∧ b < w.heap.size ∧ (∀ j y, (H.flatMap hcel)[j]? = some y → w.cell? ⟨b, off + j, none⟩ = some y) ∧ ∀ j, j < c * 2 → (w.cell? ⟨b, off + j, none⟩).isSome = true ∧ w.frozen? ⟨b, off + j, none⟩ = false
theorem hlen (H : List Hd) : (H.flatMap hcel).length = H.length * 2 := flat_len (f := hcel) (k := 2) (fun _ => rfl) H
section
variable {w0 w w' : World} {ρ ρ' : Nat → Nat} {a : Option Addr} {c : Nat} {H : List Hd} {rs : List Nat}
theorem Oth.nil (w : World) (ρ : Nat → Nat) : Oth w ρ none 0 [] := ⟨by simp, by simp [maxLen], .inl ⟨rfl, rfl⟩⟩
theorem Oth.ru (h : Oth w ρ a c H) (hu : RU rs w w' ρ ρ') (h8 : 8 ∉ rs) : Oth w' ρ' a c H := by
  refine ⟨h.le, h.mx, h.wh.imp id ?_⟩
  rintro ⟨b, off, h1, h2, h3, h4, h5⟩
  have hb : w'.heap[b]? = w.heap[b]? := hu.block b h3 (by rw [h2]; exact h8)
  refine ⟨b, off, h1, by rw [hu.role b h3]; exact h2, Nat.lt_of_lt_of_le h3 hu.size, fun j y hj => ?_, fun j hj => ?_⟩
  · rw [World.cell?_of_block (a := ⟨b, off + j, none⟩) hb]; exact h4 j y hj
  · rw [World.cell?_of_block (a := ⟨b, off + j, none⟩) hb, World.frozen?_of_block (a := ⟨b, off + j, none⟩) hb]; exact h5 j hj
theorem Oth.first {x : Hd} (h : Oth w ρ a c (x :: H)) : ∃ b off, a = some ⟨b, off, none⟩ ∧ w.cell? ⟨b, off, none⟩ = some (.int .i64 x.1) ∧ w.cell? ⟨b, off + 1, none⟩ = some (.int .u64 x.2) ∧ b < w.heap.size := by
  have hle := h.le
  simp at hle
  rcases h.wh with ⟨_, h0⟩ | ⟨b, off, h1, h2, h3, h4, h5⟩
  · omega
  · exact ⟨b, off, h1, h4 0 _ rfl, h4 1 _ rfl, h3⟩
/-- 'others[1:]', as the model spells it. -/
theorem Oth.pop {x : Hd} {b off : Nat} (h : Oth w ρ (some ⟨b, off, none⟩) c (x :: H)) : Oth w ρ (if c = 1 then some ⟨b, off, none⟩ else some ⟨b, off + 2, none⟩) (c - 1) H := by
  have hle := h.le
  have hmx := h.mx
  simp at hle
  refine ⟨by omega, by omega, .inr ?_⟩
  rcases h.wh with ⟨h0, _⟩ | ⟨b', off', h1, h2, h3, h4, h5⟩
  · cases h0
  · injection h1 with h1
    injection h1 with h1 h1'
    subst h1 h1'
    by_cases hc : c = 1
    · have hH : H = [] := List.eq_nil_of_length_eq_zero (by omega)
      subst hH
      exact ⟨b, off, if_pos hc, h2, h3, fun j y hj => by simp at hj, fun j hj => by omega⟩
    · refine ⟨b, off + 2, if_neg hc, h2, h3, fun j y hj => ?_, fun j hj => ?_⟩
      · have := h4 (j + 2) y (by simpa [hcel] using hj)
        rwa [show off + (j + 2) = off + 2 + j by omega] at this
      · have := h5 (j + 2) (by omega)
        rwa [show off + (j + 2) = off + 2 + j by omega] at this
theorem Oth.push (ho : Ro w0 w ρ) (h : Oth w ρ a c H) (hn : H.length ≤ 100000) {x : Hd} {sb : Nat} (hs : w.heap[sb]? = some (.cells #[.int .i64 x.1, .int .u64 x.2] 77)) :
    ∃ a' c' w' ρ', (Builtin.append_ #[42, 42] 42 #[.slice a H.length c, .slice (some ⟨sb, 0, none⟩) 1 1]).run Tryz.prog w = .ok (.slice a' (H.length + 1) c') w' ∧ Oth w' ρ' a' c' (H ++ [x]) ∧ RU [8] w w' ρ ρ' := by
  obtain ⟨i0, hi, hz, hsz, hby⟩ := handi_info
  have hsrc : Src Tryz.prog i0.size 42 (.slice (some ⟨sb, 0, none⟩) 1 1) 1 (hcel x) w := by
    refine Src.ofSlice w (e' := 77) Tryz.underlying42 _ _ _ _ (by rw [hsz]; rfl) (fun j u hj => ?_) (fun u hu => ?_)
    · rw [Addr.add_lit, Nat.zero_add, cell_of_heap hs]
      simpa [hcel] using hj
    · simp [hcel] at hu
      rcases hu with rfl | rfl <;> rfl
  have hle := h.le
  have hmx := h.mx
  by_cases hroom : H.length + 1 ≤ c
  · rcases h.wh with ⟨_, h0⟩ | ⟨b, off, rfl, h2, h3, h4, h5⟩
    · omega
    · have hr := run_append_room_src (P := Tryz.prog) w 42 42 42 77 i0 Tryz.underlying42 hi b off H.length c _ 1 (hcel x) hsrc hroom (fun j hj => by
        rw [hsz, Nat.add_assoc]; exact (h5 _ (by simp [hcel] at hj; omega)).1) (fun j hj => by
        rw [hsz, Nat.add_assoc]; exact (h5 _ (by simp [hcel] at hj; omega)).2)
      rw [hsz] at hr
      have hupd : Upd [b] w (w.setCells b (off + H.length * 2) (hcel x)) := by
        show Upd [b] w ((w.setCell ⟨b, off + H.length * 2, none⟩ (.int .i64 x.1)).setCell ⟨b, off + H.length * 2 + 1, none⟩ (.int .u64 x.2))
        exact ((Upd.refl _ _).setCell (by simp) _).setCell (by simp) _
      have hU : RU [8] w (w.setCells b (off + H.length * 2) (hcel x)) ρ ρ := RU.upd ho hupd (fun k hk _ => by simp at hk; subst hk; simp [h2])
      have hin := World.cell?_setCells_in b (hcel x) (off + H.length * 2) w (fun j hj => by rw [Nat.add_assoc]; exact (h5 _ (by simp [hcel] at hj; omega)).1)
      refine ⟨_, _, _, ρ, hr, ⟨by simpa using hroom, hmx, .inr ⟨b, off, rfl, h2, Nat.lt_of_lt_of_le h3 hU.size, fun j y hj => ?_, fun j hj => ?_⟩⟩, hU⟩
      · rw [List.flatMap_append] at hj
        by_cases hj2 : j < H.length * 2
        · rw [List.getElem?_append_left (by rw [hlen]; exact hj2)] at hj
          rw [World.cell?_setCells_out b _ _ _ _ (fun _ _ => .inl (by show off + j < _; omega))]
          exact h4 j y hj
        · rw [List.getElem?_append_right (by rw [hlen]; omega), hlen] at hj
          have hj' : (hcel x)[j - H.length * 2]? = some y := by simpa using hj
          obtain ⟨q1, q2⟩ := List.getElem?_eq_some_iff.1 hj'
          have := hin (j - H.length * 2) q1
          rw [q2, show off + H.length * 2 + (j - H.length * 2) = off + j by omega] at this
          exact this
      · rw [World.frozen?_setCells]
        refine ⟨?_, (h5 j hj).2⟩
        by_cases hj3 : H.length * 2 ≤ j ∧ j < H.length * 2 + 2
        · have := hin (j - H.length * 2) (by simp [hcel]; omega)
          rw [show off + H.length * 2 + (j - H.length * 2) = off + j by omega] at this
          rw [this]; rfl
        · rw [World.cell?_setCells_out b _ _ _ _ (fun _ _ => by simp [hcel]; omega)]
          exact (h5 j hj).1
  · have hold : (Builtin.firstCells i0.size H.length (.slice a H.length c)).run Tryz.prog w.drew = .ok (H.flatMap hcel).toArray w.drew := by
      rw [hsz]
      rcases h.wh with ⟨rfl, h0⟩ | ⟨b, off, rfl, h2, h3, h4, h5⟩
      · have hH : H = [] := List.eq_nil_of_length_eq_zero (by omega)
        subst hH
        subst h0
        exact run_firstCells_none (P := Tryz.prog) w.drew 2 0 0 0
      · exact run_firstCells_some (P := Tryz.prog) w.drew 2 H.length _ _ _ _ (hlen H) (fun j v hj => by rw [Addr.add_lit]; exact h4 j v hj)
    have hr := run_append_grow_src (P := Tryz.prog) w 42 42 42 77 i0 _ Tryz.underlying42 hi hz a H.length c (H.flatMap hcel) hold _ 1 (hcel x) hsrc (by omega) (by omega) (growslice_fits (by omega) (by rw [hby]; omega))
    have hge := grownCap_ge w (H.length + 1) c 77
    have hcm := grownCap_le_maxLen w (H.length + 1) c 77 (by unfold maxLen; omega)
    obtain ⟨cc, hcc⟩ : ∃ cc, cc = grownCap w (H.length + 1) c 77 := ⟨_, rfl⟩
    rw [← hcc] at hr hge hcm
    obtain ⟨o, ho'⟩ : ∃ o, o = Obj.cells (((H.flatMap hcel) ++ hcel x).toArray ++ Builtin.zeroCells (Value.cells (.agg #[.int .i64 0, .int .u64 0])) (cc - (H.length + 1))) 77 := ⟨_, rfl⟩
    have hb : Below w.heap.size w (w.drew.alloc o) := (Below.refl _ _).drew.alloc (Nat.le_refl _) _
    have hnew : (w.drew.alloc o).heap[w.heap.size]? = some o := heap_alloc_new w.drew o
    have hU : RU [8] w (w.drew.alloc o) ρ (mark ρ w.heap.size 8) := (RU.below ho hb).mark (Nat.le_refl _) (heap_lt hnew)
    rw [← ho'] at hr
    rw [ho'] at hnew
    have hfl : ((H ++ [x]).flatMap hcel) = H.flatMap hcel ++ hcel x := by rw [List.flatMap_append]; simp
    have hzs : (Value.cells (.agg #[.int .i64 0, .int .u64 0])).size = 2 := by rfl
    refine ⟨_, _, _, _, hr, ⟨by simpa using hge, hcm, .inr ⟨w.heap.size, 0, rfl, mark_self, heap_lt (by rw [ho']; exact hnew), fun j y hj => ?_, fun j hj => ⟨?_, ?_⟩⟩⟩, hU⟩
    · rw [ho', cell_of_heap hnew, Nat.zero_add]
      rw [hfl] at hj
      rw [Array.getElem?_append_left (by simp only [List.size_toArray]; exact (List.getElem?_eq_some_iff.1 hj).1), List.getElem?_toArray]
      exact hj
    · rw [ho', cell_of_heap hnew, Nat.zero_add, Array.getElem?_eq_getElem]
      · rfl
      · rw [Array.size_append, List.size_toArray, List.length_append, hlen, size_zeroCells, hzs]
        simp [hcel]
        omega
    · rw [ho', frozen_of_heap hnew]
end
end Go.Proofs.YtmhlokomlngdmaaGreat
namespace Go.Proofs.YtmhlokomlngdmaaGreat
open Go.RowKit
/-- A row that nobody writes. -/
def KpA (w : World) (ρ : Nat → Nat) (a : Option Addr) (c : Nat) (L : Cont) : Prop := At w 2 pcel a c L ∧ ∀ b o, a = some ⟨b, o, none⟩ → L ≠ [] → ρ b = 0
theorem KpA.ru {w w' : World} {ρ ρ' : Nat → Nat} {rs : List Nat} {a : Option Addr} {c : Nat} {L : Cont} (h : KpA w ρ a c L) (hu : RU rs w w' ρ ρ') (h0 : 0 ∉ rs) : KpA w' ρ' a c L := by
  obtain ⟨⟨h1, h2, h3⟩, h4⟩ := h
  rcases h3 with h3 | ⟨b, o, e, h5, h6⟩
  · exact ⟨⟨h1, h2, .inl h3⟩, fun b o hb => by rw [h3.1] at hb; cases hb⟩
  · refine ⟨⟨h1, h2, .inr ⟨b, o, e, fun hn => Nat.lt_of_lt_of_le (h5 hn) hu.size, fun i x hx j y hy => ?_⟩⟩, fun b' o' hb hn => ?_⟩
    · have hn : L ≠ [] := fun hh => by rw [hh] at hx; simp at hx
      rw [World.cell?_of_block (a := ⟨b, o + i * 2 + j, none⟩) (hu.block b (h5 hn) (by rw [h4 b o e hn]; exact h0))]
      exact h6 i x hx j y hy
    · rw [e] at hb
      injection hb with hb
      injection hb with hb1 hb2
      subst hb1 hb2
      rw [hu.role _ (h5 hn)]
      exact h4 b o e hn
theorem KpA.nil (w : World) (ρ : Nat → Nat) : KpA w ρ none 0 [] := ⟨⟨Nat.zero_le _, by omega, .inl ⟨rfl, rfl⟩⟩, fun b o hb => by cases hb⟩
theorem KpA.row {w w1 : World} {ρ : Nat → Nat} {a : Option Addr} {c : Nat} {L : Cont} (h : Row w.heap.size 57 2 pcel w1 (.slice a L.length c) L) (hf : ∀ k, w.heap.size ≤ k → ρ k = 0) : KpA w1 ρ a c L := by
  refine ⟨h.at', fun b o hb hn => ?_⟩
  rcases h.cases with ⟨h1, rfl⟩ | ⟨b', cap, h1, h2, h3, h4, h5, h6, h7, _⟩
  · exact absurd rfl hn
  · injection h1 with h1 _ h3
    rw [h1] at hb
    injection hb with hb
    injection hb with hb1 hb2
    subst hb1
    exact hf _ h2
/-- A trie, alive or gone, in a pool. -/
structure Tq (w0 w : World) (T : TS) (C : Cont) (g : Bool) : Prop where
  bw : BW w0 w T.ρ T.P T.gens T.free T.D
  i0 : T.i = 0
  hd : T.D[0]? = some T.d
  sep : ∀ j d' e e', j ≠ 0 → T.D[j]? = some d' → e ∈ d'.A.L → e' ∈ T.d.A.L → e.slot ≠ e'.slot
  cnt : T.free.count true + (T.D.map fun d => d.A.L.length).sum = T.free.length
  cs : CSort C
  wh : (g = false ∧ AT w0 w T C) ∨ (g = true ∧ C = [] ∧ T.d.A.L = [] ∧ T.ρ T.t = 4 ∧ Gone w T.t)
section
variable {w0 w w' : World} {T T' : TS} {C : Cont} {g : Bool} {rs : List Nat} {ρ' : Nat → Nat}
theorem AT.tq (h : AT w0 w T C) (hi : T.i = 0) : Tq w0 w T C false :=
  ⟨h.am.bw, hi, by have := h.am.hd; rwa [hi] at this, fun j d' e e' hj => h.am.sep j d' e e' (by rw [hi]; exact hj), h.am.cnt, h.ct.srt, .inl ⟨rfl, h⟩⟩
theorem Gone.ru (h : Gone w T.t) (hu : RU rs w w' T.ρ ρ') (h4 : T.ρ T.t = 4) (hr : 4 ∉ rs) : Gone w' T.t := by
  obtain ⟨pp, a, r1, r2, h⟩ := h
  exact ⟨pp, a, r1, r2, hu.heap h (by rw [h4]; exact hr)⟩
theorem Gone.lt (h : Gone w T.t) : T.t < w.heap.size := by
  obtain ⟨pp, a, r1, r2, h⟩ := h
  exact heap_lt h
theorem Tq.ru (h : Tq w0 w T C g) (hu : RU rs w w' T.ρ ρ') (hr : ∀ r, r ∈ rs → 6 ≤ r ∧ r ≤ 9) : Tq w0 w' { T with ρ := ρ' } C g := by
  refine ⟨h.bw.ru hu (fun r hm => by have := hr r hm; omega), h.i0, h.hd, h.sep, h.cnt, h.cs, ?_⟩
  rcases h.wh with ⟨h1, h2⟩ | ⟨h1, h2, h3, h4, h5⟩
  · exact .inl ⟨h1, h2.ru hu hr⟩
  · exact .inr ⟨h1, h2, h3, (hu.role _ h5.lt).trans h4, h5.ru hu h4 (fun hm => by have := hr 4 hm; omega)⟩
theorem Tq.below (h : Tq w0 w T C g) (hb : Below w.heap.size w w') : Tq w0 w' T C g := h.ru (rs := []) (RU.below h.bw.ro hb) (by simp)
/-- A step of another arena in the same pool. -/
theorem Tq.other {gens' : List Int} {free' : List Bool} {D' : List ArD} (h : Tq w0 w T C g) (hB : BW w0 w' ρ' T.P gens' free' D') (hu : RU rs w w' T.ρ ρ') (h4 : 4 ∉ rs) (h5 : 5 ∉ rs) (hd : D'[0]? = some T.d)
    (hsep : ∀ j d' e e', j ≠ 0 → D'[j]? = some d' → e ∈ d'.A.L → e' ∈ T.d.A.L → e.slot ≠ e'.slot) (hcnt : free'.count true + (D'.map fun d => d.A.L.length).sum = free'.length) : Tq w0 w' { T with ρ := ρ', gens := gens', free := free', D := D' } C g := by
  refine ⟨hB, h.i0, hd, hsep, hcnt, h.cs, ?_⟩
  rcases h.wh with ⟨h1, h2⟩ | ⟨h1, h2, h3, h6, h7⟩
  · have ha := h2.am
    exact .inl ⟨h1, ⟨⟨hB, by show D'[T.i]? = _; rw [h.i0]; exact hd, ha.ta, ha.tc, by rw [← ha.rol]; exact hu.role _ (heap_lt ha.blk), hu.heap ha.blk (by rw [ha.rol]; exact h4), ha.ent, ha.kid, ha.ndf, ha.kw.ru hu h5, ha.len, fun j d' e e' hj => hsep j d' e e' (by rw [← h.i0]; exact hj), hcnt⟩, h2.ok, h2.ct, h2.nm, h2.nb, h2.sz, h2.lim⟩⟩
  · exact .inr ⟨h1, h2, h3, (hu.role _ h7.lt).trans h6, h7.ru hu h6 h4⟩
end
/-- The law's world: the trie has C (g: it is gone), the document's tree L (gd), of no others; others have M; the law keeps H. -/
structure QX (w0 w : World) (xb t ai dd : Nat) (K : List (Nat × Obj)) (c0 k : Nat) (g : Bool) (C : Cont) (gd : Bool) (L : Cont) (no : Nat) (M H : List Hd) (T : TS) (dI : ArD) (oa : Option Addr) (oc : Nat) (wa : Option Addr) (wc : Nat) : Prop where
  tq : Tq w0 w T C g
  tt : T.t = t
  fl : T.free.length = c0
  dl : T.D.length = 2
  hI : T.D[1]? = some dI ∧ dI.ta = 85 ∧ dI.tc = 141 ∧ dI.A.a = ai
  hm : M = dI.A.L.map hof
  xr : T.ρ xb = 7
  xk : w.heap[xb]? = some (.cells #[.pointer (some ⟨t, 0, none⟩), .pointer (some ⟨dd, 0, none⟩), .pointer (some ⟨ai, 0, none⟩), .slice oa H.length oc] 44)
  oth : Oth w T.ρ oa oc H
  dr : T.ρ dd = 9
  dk : w.heap[dd]? = some (.cells #[.slice wa L.length wc, .int .i64 c0, .int .i64 no, .bool gd] 39)
  kp : KpA w T.ρ wa wc L
  lk : L.length ≤ k
  hk : H.length ≤ k
  ks : ∀ x : Str × Str, x ∈ L → x.1.size ≤ 60
  kk : ∀ y, y ∈ K → T.ρ y.1 = 0 ∧ w.heap[y.1]? = some y.2
def QY (w0 w : World) (xb t ai dd : Nat) (K : List (Nat × Obj)) (c0 k : Nat) (g : Bool) (C : Cont) (gd : Bool) (L : Cont) (no : Nat) (M H : List Hd) : Prop := ∃ T dI oa oc wa wc, QX w0 w xb t ai dd K c0 k g C gd L no M H T dI oa oc wa wc
/-- Both in step. -/
def QS (w0 w : World) (xb t ai dd : Nat) (K : List (Nat × Obj)) (c0 k : Nat) : Prop := ∃ g C L H, QY w0 w xb t ai dd K c0 k g C g L H.length H H ∧ L.Perm C
section
variable {w0 w w' : World} {xb t ai dd c0 k : Nat} {K : List (Nat × Obj)} {g gd : Bool} {C L : Cont} {no : Nat} {M H : List Hd} {T : TS} {dI : ArD} {oa : Option Addr} {oc : Nat} {wa : Option Addr} {wc : Nat} {rs : List Nat} {ρ' : Nat → Nat}
/-- The trie turns, by a step that leaves the law's blocks. -/
theorem QX.tree (h : QX w0 w xb t ai dd K c0 k g C gd L no M H T dI oa oc wa wc) {T' : TS} {C' : Cont} {g' : Bool} (hq : Tq w0 w' T' C' g') (ht : T'.t = T.t) (hf : T'.free.length = T.free.length) (hD : T'.D.length = T.D.length) (hj : ∀ j, j ≠ 0 → T'.D[j]? = T.D[j]?)
    (hu : RU rs w w' T.ρ T'.ρ) (h0 : 0 ∉ rs) (h7 : 7 ∉ rs) (h8 : 8 ∉ rs) (h9 : 9 ∉ rs) : QX w0 w' xb t ai dd K c0 k g' C' gd L no M H T' dI oa oc wa wc :=
  ⟨hq, ht.trans h.tt, hf.trans h.fl, hD.trans h.dl, ⟨by rw [hj 1 (by omega)]; exact h.hI.1, h.hI.2⟩, h.hm, by rw [hu.role _ (heap_lt h.xk)]; exact h.xr, hu.heap h.xk (by rw [h.xr]; exact h7), h.oth.ru hu h8, by rw [hu.role _ (heap_lt h.dk)]; exact h.dr, hu.heap h.dk (by rw [h.dr]; exact h9), h.kp.ru hu h0, h.lk, h.hk, h.ks,
    fun y hy => ⟨by rw [hu.role _ (heap_lt (h.kk y hy).2)]; exact (h.kk y hy).1, hu.heap (h.kk y hy).2 (by rw [(h.kk y hy).1]; exact h0)⟩⟩
theorem QX.below (h : QX w0 w xb t ai dd K c0 k g C gd L no M H T dI oa oc wa wc) (hb : Below w.heap.size w w') : QX w0 w' xb t ai dd K c0 k g C gd L no M H T dI oa oc wa wc :=
  h.tree (rs := []) (h.tq.below hb) rfl rfl rfl (fun _ _ => rfl) (RU.below h.tq.bw.ro hb) (by simp) (by simp) (by simp) (by simp)
theorem QY.below (h : QY w0 w xb t ai dd K c0 k g C gd L no M H) (hb : Below w.heap.size w w') : QY w0 w' xb t ai dd K c0 k g C gd L no M H := by
  obtain ⟨T, dI, oa, oc, wa, wc, h⟩ := h
  exact ⟨T, dI, oa, oc, wa, wc, h.below hb⟩
theorem QS.below (h : QS w0 w xb t ai dd K c0 k) (hb : Below w.heap.size w w') : QS w0 w' xb t ai dd K c0 k := by
  obtain ⟨g, C, L, H, h, hp⟩ := h
  exact ⟨g, C, L, H, h.below hb, hp⟩
theorem QX.up {k' : Nat} (h : QX w0 w xb t ai dd K c0 k g C gd L no M H T dI oa oc wa wc) (hk : k ≤ k') : QX w0 w xb t ai dd K c0 k' g C gd L no M H T dI oa oc wa wc :=
  ⟨h.tq, h.tt, h.fl, h.dl, h.hI, h.hm, h.xr, h.xk, h.oth, h.dr, h.dk, h.kp, Nat.le_trans h.lk hk, Nat.le_trans h.hk hk, h.ks, h.kk⟩
theorem QS.up {k' : Nat} (h : QS w0 w xb t ai dd K c0 k) (hk : k ≤ k') : QS w0 w xb t ai dd K c0 k' := by
  obtain ⟨g, C, L, H, ⟨T, dI, oa, oc, wa, wc, h⟩, hp⟩ := h
  exact ⟨g, C, L, H, ⟨T, dI, oa, oc, wa, wc, h.up hk⟩, hp⟩
theorem QS.bel (h : QS w0 w xb t ai dd K c0 k) : Below w0.heap.size w0 w := by
  obtain ⟨g, C, L, H, ⟨T, dI, oa, oc, wa, wc, h⟩, hp⟩ := h
  exact h.tq.bw.ro.bel
/-- What the law's struct holds. -/
structure XV (w : World) (xb t ai dd : Nat) (K : List (Nat × Obj)) : Prop where
  c0 : w.cell? ⟨xb, 0, none⟩ = some (.pointer (some ⟨t, 0, none⟩))
  c1 : w.cell? ⟨xb, 1, none⟩ = some (.pointer (some ⟨dd, 0, none⟩))
  c2 : w.cell? ⟨xb, 2, none⟩ = some (.pointer (some ⟨ai, 0, none⟩))
  xq : xb < w.heap.size
  dq : dd < w.heap.size
  xf : ∀ i, w.frozen? ⟨xb, i, none⟩ = false
  df : ∀ i, w.frozen? ⟨dd, i, none⟩ = false
  kk : ∀ y, y ∈ K → w.heap[y.1]? = some y.2
theorem XV.below (h : XV w xb t ai dd K) (hb : Below w.heap.size w w') : XV w' xb t ai dd K :=
  ⟨keep hb h.c0, keep hb h.c1, keep hb h.c2, Nat.lt_of_lt_of_le h.xq hb.size, Nat.lt_of_lt_of_le h.dq hb.size, fun i => by rw [hb.frozen (p := ⟨xb, i, none⟩) h.xq]; exact h.xf i, fun i => by rw [hb.frozen (p := ⟨dd, i, none⟩) h.dq]; exact h.df i, fun y hy => Below.heap' hb (h.kk y hy)⟩
theorem QX.xv (h : QX w0 w xb t ai dd K c0 k g C gd L no M H T dI oa oc wa wc) : XV w xb t ai dd K := by
  refine ⟨?_, ?_, ?_, heap_lt h.xk, heap_lt h.dk, fun i => frozen_of_heap h.xk i, fun i => frozen_of_heap h.dk i, fun y hy => (h.kk y hy).2⟩ <;> rw [cell_of_heap h.xk] <;> rfl
theorem QS.xv (h : QS w0 w xb t ai dd K c0 k) : XV w xb t ai dd K := by
  obtain ⟨g, C, L, H, ⟨T, dI, oa, oc, wa, wc, h⟩, hp⟩ := h
  exact h.xv
theorem QX.dt (h : QX w0 w xb t ai dd K c0 k g C gd L no M H T dI oa oc wa wc) (hk : k ≤ 1000) : DT w dd wa wc L c0 no gd :=
  ⟨h.dk, h.kp.1, Nat.le_trans h.lk hk, fun x hx => Nat.le_trans (h.ks x hx) (by simp [maxLen])⟩
/-- How many slots there are. -/
theorem QX.room (h : QX w0 w xb t ai dd K c0 k false C gd L no M H T dI oa oc wa wc) : AT w0 w T C ∧ T.F.length = nodesN C ∧ T.free.count true + nodesN C + M.length = c0 := by
  rcases h.tq.wh with ⟨_, h1⟩ | ⟨h1, _⟩
  · have h2 := nodes_eq h1.ok h1.ct h1.nm
    have h3 := h1.am.len
    have h4 := h.tq.cnt
    have h5 := h.dl
    have h6 := h.tq.hd
    have h7 := h.hI.1
    have h8 := h.fl
    have h9 : M.length = dI.A.L.length := by rw [h.hm, List.length_map]
    match hDD : T.D, h5 with
    | [d, e], _ =>
      rw [hDD] at h4 h6 h7
      simp only [List.getElem?_cons_zero] at h6
      simp only [List.getElem?_cons_succ, List.getElem?_cons_zero] at h7
      injection h6 with h6
      injection h7 with h7
      subst h6 h7
      simp only [List.map_cons, List.map_nil, List.sum_cons, List.sum_nil] at h4
      exact ⟨h1, h2, by omega⟩
  · cases h1
/-- The trie's Put. -/
def putR (g : Bool) (C : Cont) (n c0 : Nat) (key v : Str) : Str × Bool × Int := if g = true then (s0, false, 8) else if nodesN (cput C key v) + n ≤ c0 then ((cget C key).getD s0, (cget C key).isSome, 0) else (s0, false, 5)
def putK (g : Bool) (C : Cont) (n c0 : Nat) (key v : Str) : Bool := !g && decide (nodesN (cput C key v) + n ≤ c0)
def tup3 (x : Str × Bool × Int) : Value := .tuple #[.string x.1, .bool x.2.1, .int .i64 x.2.2]
theorem QX.put (h : QX w0 w xb t ai dd K c0 k g C gd L no M H T dI oa oc wa wc) (key v : Str) (hkey : key.size ≤ 600) (hC : C.length ≤ 100000) :
    Calls Tryz.prog 18 #[.pointer (some ⟨t, 0, none⟩), .string key, .string v] w fun e w' => e = .returned (tup3 (putR g C M.length c0 key v)) ∧ QY w0 w' xb t ai dd K c0 k g (if putK g C M.length c0 key v = true then cput C key v else C) gd L no M H := by
  rcases h.tq.wh with ⟨rfl, h1⟩ | ⟨rfl, h1, h2, h3, h4⟩
  · obtain ⟨_, hF, hR⟩ := h.room
    have ht := h.tt
    subst ht
    refine (h1.put key v hkey hC).mono ?_
    rintro e w' ⟨F', m, hP, ⟨hm, rfl, T', hT, hev, _⟩ | ⟨hm, rfl, hb⟩⟩
    · have hle : nodesN (cput C key v) + M.length ≤ c0 := by
        have := nodes_eq hP.ok hP.ct hP.nm
        have := hP.len
        omega
      have e1 : putR false C M.length c0 key v = ((cget C key).getD s0, (cget C key).isSome, 0) := by simp [putR, hle]
      have e2 : putK false C M.length c0 key v = true := by simp [putK, hle]
      rw [e1, e2]
      have hi := h.tq.i0
      exact ⟨rfl, T', dI, oa, oc, wa, wc, h.tree (hT.tq (hev.i.trans hi)) hev.t hev.fl hev.dl (fun j hj => hev.dj j (by rw [hi]; exact hj)) hev.ru (by rw [hi]; simp) (by rw [hi]; simp) (by rw [hi]; simp) (by rw [hi]; simp)⟩
    · have hle : ¬ nodesN (cput C key v) + M.length ≤ c0 := by
        have := nodes_eq hP.ok hP.ct hP.nm
        have := hP.len
        omega
      have e1 : putR false C M.length c0 key v = (s0, false, 5) := by simp [putR, hle]
      have e2 : putK false C M.length c0 key v = false := by simp [putK, hle]
      rw [e1, e2]
      exact ⟨rfl, T, dI, oa, oc, wa, wc, h.below hb⟩
  · have ht := h.tt
    subst ht
    refine (h4.put key v).mono ?_
    rintro e w' ⟨rfl, rfl⟩
    exact ⟨rfl, T, dI, oa, oc, wa, wc, h⟩
theorem QX.delete (h : QX w0 w xb t ai dd K c0 k g C gd L no M H T dI oa oc wa wc) (key : Str) (hkey : key.size ≤ 600) :
    Calls Tryz.prog 24 #[.pointer (some ⟨t, 0, none⟩), .string key] w fun e w' => e = .returned (.tuple #[.string ((cget C key).getD s0), .bool (cget C key).isSome]) ∧ QY w0 w' xb t ai dd K c0 k g (cdel C key) gd L no M H := by
  rcases h.tq.wh with ⟨rfl, h1⟩ | ⟨rfl, h1, h2, h3, h4⟩
  · have ht := h.tt
    subst ht
    have hi := h.tq.i0
    refine (h1.delete key hkey).mono ?_
    rintro e w' (⟨hg, rfl, hb⟩ | ⟨v, hg, rfl, T', hT, hev⟩)
    · rw [hg, cdel_none hg h1.ct.srt]
      exact ⟨rfl, T, dI, oa, oc, wa, wc, h.below hb⟩
    · rw [hg]
      exact ⟨rfl, T', dI, oa, oc, wa, wc, h.tree (hT.tq (hev.i.trans hi)) hev.t hev.fl hev.dl (fun j hj => hev.dj j (by rw [hi]; exact hj)) hev.ru (by rw [hi]; simp) (by rw [hi]; simp) (by rw [hi]; simp) (by rw [hi]; simp)⟩
  · have ht := h.tt
    subst ht
    subst h1
    refine (h4.delete key).mono ?_
    rintro e w' ⟨rfl, rfl⟩
    exact ⟨rfl, T, dI, oa, oc, wa, wc, h⟩
theorem QX.get (h : QX w0 w xb t ai dd K c0 k g C gd L no M H T dI oa oc wa wc) (key : Str) (hkey : key.size ≤ big) :
    Calls Tryz.prog 26 #[.pointer (some ⟨t, 0, none⟩), .string key, .nilFunc] w fun e w' => e = .returned (.tuple #[.string ((cget C key).getD s0), .bool (cget C key).isSome, .bool g]) ∧ Below w.heap.size w w' := by
  have ht := h.tt
  subst ht
  rcases h.tq.wh with ⟨rfl, h1⟩ | ⟨rfl, h1, h2, h3, h4⟩
  · exact h1.get key hkey
  · subst h1
    exact (h4.get key _).mono fun e w' hh => ⟨hh.1, by rw [← hh.2]; exact Below.refl _ _⟩
theorem QX.next (h : QX w0 w xb t ai dd K c0 k g C gd L no M H T dI oa oc wa wc) (key : Str) (after : Bool) :
    Calls Tryz.prog 27 #[.pointer (some ⟨t, 0, none⟩), .string key, .bool after, .nilFunc] w fun e w' => e = .returned (.tuple #[.string (fK (cnext C key after)), .string (fX (cnext C key after)), .bool (cnext C key after).isSome, .bool g]) ∧ Below w.heap.size w w' := by
  have ht := h.tt
  subst ht
  rcases h.tq.wh with ⟨rfl, h1⟩ | ⟨rfl, h1, h2, h3, h4⟩
  · exact h1.next key after
  · subst h1
    exact (h4.next key after _).mono fun e w' hh => ⟨hh.1, by rw [← hh.2]; exact Below.refl _ _⟩
theorem QX.length (h : QX w0 w xb t ai dd K c0 k g C gd L no M H T dI oa oc wa wc) :
    Calls Tryz.prog 20 #[.pointer (some ⟨t, 0, none⟩)] w fun e w' => e = .returned (.int .i64 C.length) ∧ w = w' := by
  have ht := h.tt
  subst ht
  rcases h.tq.wh with ⟨rfl, h1⟩ | ⟨rfl, h1, h2, h3, h4⟩
  · exact h1.length
  · subst h1
    exact h4.length
/-- The slots that the document tells of. -/
def slotR (g : Bool) (C : Cont) : Nat := if g = true then 0 else nodesN C
theorem QX.slots (h : QX w0 w xb t ai dd K c0 k g C gd L no M H T dI oa oc wa wc) :
    Calls Tryz.prog 19 #[.pointer (some ⟨t, 0, none⟩)] w fun e w' => e = .returned (.int .i64 (slotR g C)) ∧ Below w.heap.size w w' := by
  have ht := h.tt
  rcases h.tq.wh with ⟨rfl, h1⟩ | ⟨rfl, h1, h2, h3, h4⟩
  · subst ht
    have := h1.slots
    rw [h.room.2.1] at this
    exact this
  · subst ht
    exact h4.slots.mono fun e w' hh => ⟨hh.1, by rw [← hh.2]; exact Below.refl _ _⟩
theorem QX.check (h : QX w0 w xb t ai dd K c0 k g C gd L no M H T dI oa oc wa wc) :
    Calls Tryz.prog 22 #[.pointer (some ⟨t, 0, none⟩)] w fun e w' => e = .returned (.bool true) ∧ Below w.heap.size w w' := by
  have ht := h.tt
  subst ht
  rcases h.tq.wh with ⟨rfl, h1⟩ | ⟨rfl, h1, h2, h3, h4⟩
  · exact h1.check
  · exact h4.check
theorem QX.all (h : QX w0 w xb t ai dd K c0 k g C gd L no M H T dI oa oc wa wc) :
    Calls Tryz.prog 14 #[.pointer (some ⟨t, 0, none⟩)] w (AllEnd w C) := by
  have ht := h.tt
  subst ht
  rcases h.tq.wh with ⟨rfl, h1⟩ | ⟨rfl, h1, h2, h3, h4⟩
  · exact h1.all
  · subst h1
    exact h4.all
theorem QX.drop (h : QX w0 w xb t ai dd K c0 k g C gd L no M H T dI oa oc wa wc) :
    Calls Tryz.prog 25 #[.pointer (some ⟨t, 0, none⟩)] w fun e w' => e = .returned (.tuple #[]) ∧ QY w0 w' xb t ai dd K c0 k true [] gd L no M H := by
  have ht := h.tt
  subst ht
  have hi := h.tq.i0
  rcases h.tq.wh with ⟨rfl, h1⟩ | ⟨rfl, h1, h2, h3, h4⟩
  · refine h1.am.drop.mono ?_
    rintro e w' ⟨rfl, T', wx, hA, hev, hF, hfr, hu, hG⟩
    have hr : T'.ρ T.t = 4 := by rw [← hev.t]; exact hA.rol
    have hU : RU [4] wx w' T'.ρ T'.ρ := RU.upd hA.bw.ro hu (fun k hk _ => by simp at hk; subst hk; simp [hr])
    have hi' : T'.i = 0 := hev.i.trans hi
    have hL : T'.d.A.L = [] := List.length_eq_zero_iff.1 (by rw [hA.len, hF]; rfl)
    have hq : Tq w0 w' T' [] true := ⟨hA.bw.ru hU (by simp), hi', by have := hA.hd; rwa [hi'] at this, fun j d' e e' hj => hA.sep j d' e e' (by rw [hi']; exact hj), hA.cnt, List.Pairwise.nil, .inr ⟨rfl, rfl, hL, by rw [hev.t]; exact hr, by rw [hev.t]; exact hG⟩⟩
    have hUU := hev.ru.trans (hU.mono (rs' := [1, 2, 3, 4, 5, 10 + 3 * T.i, 12 + 3 * T.i]) (by simp))
    exact ⟨rfl, T', dI, oa, oc, wa, wc, h.tree hq hev.t hev.fl hev.dl (fun j hj => hev.dj j (by rw [hi]; exact hj)) hUU (by rw [hi]; simp) (by rw [hi]; simp) (by rw [hi]; simp) (by rw [hi]; simp)⟩
  · subst h1
    refine h4.drop.mono ?_
    rintro e w' ⟨rfl, rfl⟩
    exact ⟨rfl, T, dI, oa, oc, wa, wc, h⟩
theorem QX.iag (h : QX w0 w xb t ai dd K c0 k g C gd L no M H T dI oa oc wa wc) : ArenaG 85 141 w [T.P.1, T.P.2.1, T.P.2.2, dI.A.m] (some ⟨T.P.1, 0, none⟩) dI.A := by
  have := h.tq.bw.ars.gR h.hI.1
  rw [h.hI.2.1, h.hI.2.2.1] at this
  exact this
end
end Go.Proofs.YtmhlokomlngdmaaGreat
namespace Go.Proofs.YtmhlokomlngdmaaGreat
open Go.RowKit
theorem get_set_self {α : Type} {D : List α} {i : Nat} {d d' : α} (h : D[i]? = some d) : (D.set i d')[i]? = some d' := by
  rw [List.getElem?_set, if_pos rfl, if_pos (List.getElem?_eq_some_iff.1 h).1]
theorem count_one {free : List Bool} (h : true ∈ free) : (free.set (free.idxOf true) false).count true + 1 = free.count true := by
  have q1 := List.idxOf_lt_length_of_mem h
  have q2 : free[free.idxOf true]? = some true := by rw [List.getElem?_eq_getElem q1, List.getElem_idxOf]
  have := count_set_false free (free.idxOf true) q1 q2
  omega
theorem filter_first {e0 : AEnt} {L : List AEnt} (hn : ((e0 :: L).map AEnt.slot).Nodup) : ((e0 :: L).filter fun e => e.slot ≠ e0.slot) = L := by
  rw [List.map_cons, List.nodup_cons] at hn
  rw [List.filter_cons_of_neg (by simp)]
  refine List.filter_eq_self.2 fun y hy => ?_
  have : y.slot ≠ e0.slot := fun hh => hn.1 (by rw [← hh]; exact List.mem_map_of_mem hy)
  simpa using this
section
variable {w0 w w' w1 : World} {xb t ai dd c0 k : Nat} {K : List (Nat × Obj)} {g gd : Bool} {C L : Cont} {no : Nat} {M H : List Hd} {T : TS} {dI : ArD} {oa : Option Addr} {oc : Nat} {wa : Option Addr} {wc : Nat} {rs : List Nat} {ρ' : Nat → Nat}
/-- The pool and the others' arena turn. -/
theorem QX.others (h : QX w0 w xb t ai dd K c0 k g C gd L no M H T dI oa oc wa wc) {gens' : List Int} {free' : List Bool} {dI' : ArD} {M' : List Hd} (hB : BW w0 w' ρ' T.P gens' free' (T.D.set 1 dI')) (hu : RU [1, 2, 3, 15] w w' T.ρ ρ')
    (hI : dI'.ta = dI.ta ∧ dI'.tc = dI.tc ∧ dI'.A.a = dI.A.a) (hsep : ∀ e e', e ∈ dI'.A.L → e' ∈ T.d.A.L → e.slot ≠ e'.slot) (hcnt : free'.count true + dI'.A.L.length = T.free.count true + dI.A.L.length) (hfl : free'.length = T.free.length) (hM : M' = dI'.A.L.map hof) :
    ∃ T' dI', QX w0 w' xb t ai dd K c0 k g C gd L no M' H T' dI' oa oc wa wc := by
  have hlt : 1 < T.D.length := by rw [h.dl]; omega
  have hs := sum_set (d' := dI') h.hI.1
  have hc := h.tq.cnt
  refine ⟨_, dI', ⟨h.tq.other (D' := T.D.set 1 dI') hB hu (by simp) (by simp) (by rw [List.getElem?_set_ne (by omega)]; exact h.tq.hd) (fun j d' e e' hj hD he he' => ?_) (by generalize ((T.D.set 1 dI').map fun d => d.A.L.length).sum = z at hs ⊢; generalize (T.D.map fun d => d.A.L.length).sum = y at hs hc; omega), h.tt, hfl.trans h.fl, by rw [List.length_set]; exact h.dl, ⟨get_set_self h.hI.1, hI.1.trans h.hI.2.1, hI.2.1.trans h.hI.2.2.1, hI.2.2.trans h.hI.2.2.2⟩, hM, by rw [← h.xr]; exact hu.role _ (heap_lt h.xk), hu.heap h.xk (by rw [h.xr]; simp), h.oth.ru hu (by simp), by rw [← h.dr]; exact hu.role _ (heap_lt h.dk), hu.heap h.dk (by rw [h.dr]; simp), h.kp.ru hu (by simp), h.lk, h.hk, h.ks,
    fun y hy => ⟨by rw [← (h.kk y hy).1]; exact hu.role _ (heap_lt (h.kk y hy).2), hu.heap (h.kk y hy).2 (by rw [(h.kk y hy).1]; simp)⟩⟩⟩
  rcases get_set hD with ⟨rfl, rfl⟩ | ⟨hne, hD⟩
  · exact hsep e e' he he'
  · exact h.tq.sep j d' e e' hj hD he he'
/-- Somebody else takes a slot. -/
theorem QX.ialloc (h : QX w0 w xb t ai dd K c0 k g C gd L no M H T dI oa oc wa wc) (x : Int) : Calls Tryz.prog 36 #[.pointer (some ⟨ai, 0, none⟩), .int .i64 x] w fun e w' =>
    (∃ h1 h2 : Int, e = .returned (.tuple #[.agg #[.int .i64 h1, .int .u64 h2], .int .i64 0]) ∧ QY w0 w' xb t ai dd K c0 k g C gd L no (M ++ [(h1, h2)]) H) ∨ (e = .returned (.tuple #[.agg #[.int .i64 0, .int .u64 0], .int .i64 5]) ∧ QY w0 w' xb t ai dd K c0 k g C gd L no M H) := by
  have hA := h.iag
  have hB := h.tq.bw
  have hdI := h.hI.1
  have hai := h.hI.2.2.2
  subst hai
  obtain ⟨P, hP⟩ : ∃ P, P = T.P := ⟨_, rfl⟩
  obtain ⟨pa, pg, pf⟩ := P
  rw [← hP] at hA hB
  have hp := hB.ars.pool.1
  by_cases hfr : true ∈ T.free
  · obtain ⟨n1, n3, n4, n5, n6, n7⟩ := hB.ars.neq hdI
    have hpR := hB.ars.pR hdI
    have hl : ∀ q, q ∈ [pa, pg, pf, dI.A.m] → q < w.heap.size := by
      intro q hq
      simp only [List.mem_cons, List.not_mem_nil, or_false] at hq
      rcases hq with rfl | rfl | rfl | rfl
      · exact heap_lt hp.2.2.2.2.2.1
      · exact heap_lt hp.2.2.2.2.2.2.1
      · exact heap_lt hp.2.2.2.2.2.2.2
      · exact heap_lt hA.2.2.1
    refine (AInt.gAlloc_some dI.A pa pg pf [pa, pg, pf, dI.A.m] T.gens T.free x w hA hp hfr n1 n3 n5 n6 n7 (by simp) hl (fun e he => idx_ne' ((hB.ars.ar 1 dI hdI).th e he).2 hfr)).mono ?_
    rintro e w' ⟨he, hu, hp', b, hb, hA'⟩
    obtain ⟨q1, q2⟩ := hB.ars.alloc hB.ro hdI hfr hu hp' hb (xs := [.int .i64 x]) (by rw [h.hI.2.1, h.hI.2.2.1]; exact hA')
    have hcnt : (T.free.set (T.free.idxOf true) false).count true + 1 = T.free.count true := count_one hfr
    suffices hq : ∃ T' dI', QX w0 w' xb t dI.A.a dd K c0 k g C gd L no (M ++ [(((T.free.idxOf true : Nat) : Int), T.gens.getD (T.free.idxOf true) 0)]) H T' dI' oa oc wa wc by
      obtain ⟨T', dI', hq⟩ := hq
      exact .inl ⟨_, _, he, T', dI', oa, oc, wa, wc, hq⟩
    have q3 := BW.mk (hB.ro.step q2 (by simp)) q1
    rw [hP] at q3
    refine h.others q3 q2 ⟨rfl, rfl, rfl⟩ (fun e1 x1 he1 hx1 => ?_) ?_ (by rw [List.length_set]) ?_
    · have hfx := ((hB.ars.ar 0 T.d h.tq.hd).th x1 hx1).2
      simp only [List.mem_append, List.mem_singleton] at he1
      rcases he1 with he1 | rfl
      · exact h.tq.sep 1 dI e1 x1 (by omega) hdI he1 hx1
      · exact fun e => idx_ne' hfx hfr e.symm
    · simp only [List.length_append, List.length_singleton]
      omega
    · rw [h.hm, List.map_append]
      rfl
  · refine (AInt.gAlloc_full dI.A pa pg pf [pa, pg, pf, dI.A.m] T.gens T.free x w hA hp hfr).mono ?_
    rintro e w' ⟨he, hb⟩
    exact .inr ⟨he, T, dI, oa, oc, wa, wc, h.below hb⟩
/-- .. gives the first one back. -/
theorem QX.irelease {x : Hd} (h : QX w0 w xb t ai dd K c0 k g C gd L no (x :: M) H T dI oa oc wa wc) : Calls Tryz.prog 37 #[.pointer (some ⟨ai, 0, none⟩), .agg #[.int .i64 x.1, .int .u64 x.2]] w fun e w' =>
    e = .returned (.bool true) ∧ ∃ T' dI', QX w0 w' xb t ai dd K c0 k g C gd L no M H T' dI' oa oc wa wc := by
  have hA := h.iag
  have hB := h.tq.bw
  have hdI := h.hI.1
  have hai := h.hI.2.2.2
  subst hai
  obtain ⟨P, hP⟩ : ∃ P, P = T.P := ⟨_, rfl⟩
  obtain ⟨pa, pg, pf⟩ := P
  rw [← hP] at hA hB
  have hp := hB.ars.pool.1
  have hm := h.hm
  obtain ⟨e0, L0, hL0⟩ : ∃ e0 L0, dI.A.L = e0 :: L0 := by
    cases hL : dI.A.L with
    | nil => rw [hL] at hm; cases hm
    | cons a l => exact ⟨a, l, rfl⟩
  rw [hL0, List.map_cons] at hm
  injection hm with hm1 hm2
  have hx : e0 ∈ dI.A.L := by rw [hL0]; simp
  have hAi := hB.ars.ar 1 dI hdI
  have hfr := (hAi.th e0 hx).2
  obtain ⟨n1, n2, n3, n4, n5, n6⟩ := hB.ars.neq hdI
  refine (AInt.gRelease_some dI.A pa pg pf _ T.gens T.free x.1 x.2 e0 w hA hp hx (by rw [hm1]; rfl) (by rw [hm1]; rfl) hfr n1 n2 n3 n4 n5 n6 (by simp)).mono ?_
  rintro e w' ⟨he, hu, hp', hA'⟩
  have hne : ∀ j d' e, j ≠ 1 → T.D[j]? = some d' → e ∈ d'.A.L → e.slot ≠ e0.slot := fun j d' e hj hD he hh => by
    have hj2 := (List.getElem?_eq_some_iff.1 hD).1
    have := h.dl
    have hj0 : j = 0 := by omega
    subst hj0
    rw [h.tq.hd] at hD
    injection hD with hD
    subst hD
    exact h.tq.sep 1 dI e0 e (by omega) hdI hx he hh.symm
  obtain ⟨q1, q2⟩ := hB.ars.release hB.ro hdI hx hne hu hp' (by rw [h.hI.2.1, h.hI.2.2.1]; exact hA')
  have hns : (dI.A.L.map AEnt.slot).Nodup := hA.2.2.2.1
  have hff : (dI.A.L.filter fun e => e.slot ≠ e0.slot) = L0 := by
    rw [hL0] at hns ⊢
    exact filter_first hns
  have hct := count_set_true T.free e0.slot hfr
  have q3 := BW.mk (hB.ro.step q2 (by simp)) q1
  rw [hP] at q3
  refine ⟨he, h.others q3 q2 ⟨rfl, rfl, rfl⟩ (fun e1 x1 he1 hx1 => h.tq.sep 1 dI e1 x1 (by omega) hdI (List.mem_filter.1 he1).1 hx1) ?_ (by rw [List.length_set]) ?_⟩
  · have hl : (dI.A.L.filter fun e => e.slot ≠ e0.slot).length = L0.length := by rw [hff]
    have hl2 : dI.A.L.length = L0.length + 1 := by rw [hL0]; rfl
    simp only
    omega
  · show M = (dI.A.L.filter fun e => e.slot ≠ e0.slot).map hof
    rw [hff]
    exact hm2
/-- The document's tree is written. -/
theorem QX.setD (h : QX w0 w xb t ai dd K c0 k g C gd L no M H T dI oa oc wa wc) (hu : Upd [dd] w w') {wa' : Option Addr} {wc' no' k' : Nat} {L' : Cont} {gd' : Bool} (hd : w'.heap[dd]? = some (.cells #[.slice wa' L'.length wc', .int .i64 c0, .int .i64 no', .bool gd'] 39))
    (hkp : KpA w T.ρ wa' wc' L') (hk : k ≤ k') (hl : L'.length ≤ k') (hs : ∀ x : Str × Str, x ∈ L' → x.1.size ≤ 60) : QX w0 w' xb t ai dd K c0 k' g C gd' L' no' M H T dI oa oc wa' wc' := by
  have hU : RU [9] w w' T.ρ T.ρ := RU.upd h.tq.bw.ro hu (fun k hk _ => by simp at hk; subst hk; simp [h.dr])
  exact ⟨h.tq.ru hU (by simp), h.tt, h.fl, h.dl, h.hI, h.hm, h.xr, hU.heap h.xk (by rw [h.xr]; simp), h.oth.ru hU (by simp), h.dr, hd, hkp.ru hU (by simp), hl, Nat.le_trans h.hk hk, hs, fun y hy => ⟨(h.kk y hy).1, hU.heap (h.kk y hy).2 (by rw [(h.kk y hy).1]; simp)⟩⟩
/-- The law's struct is written, and its handles. -/
theorem QX.setX (h : QX w0 w xb t ai dd K c0 k g C gd L no M H T dI oa oc wa wc) (hU : RU [7, 8] w w' T.ρ ρ') {oa' : Option Addr} {oc' k' : Nat} {H' : List Hd} (hx : w'.heap[xb]? = some (.cells #[.pointer (some ⟨t, 0, none⟩), .pointer (some ⟨dd, 0, none⟩), .pointer (some ⟨ai, 0, none⟩), .slice oa' H'.length oc'] 44))
    (ho : Oth w' ρ' oa' oc' H') (hk : k ≤ k') (hl : H'.length ≤ k') : QX w0 w' xb t ai dd K c0 k' g C gd L no M H' { T with ρ := ρ' } dI oa' oc' wa wc :=
  ⟨h.tq.ru hU (by simp), h.tt, h.fl, h.dl, h.hI, h.hm, by rw [← h.xr]; exact hU.role _ (heap_lt h.xk), hx, ho, by rw [← h.dr]; exact hU.role _ (heap_lt h.dk), hU.heap h.dk (by rw [h.dr]; simp), h.kp.ru hU (by simp), Nat.le_trans h.lk hk, hl, h.ks, fun y hy => ⟨by rw [← (h.kk y hy).1]; exact hU.role _ (heap_lt (h.kk y hy).2), hU.heap (h.kk y hy).2 (by rw [(h.kk y hy).1]; simp)⟩⟩
/-- A handle is kept. -/
theorem QX.tell (h : QX w0 w xb t ai dd K c0 k g C gd L no M H T dI oa oc wa wc) (hk : k ≤ 300) {x : Hd} {sb : Nat} (hs : w.heap[sb]? = some (.cells #[.int .i64 x.1, .int .u64 x.2] 77)) :
    ∃ a' c' w', (Builtin.append_ #[42, 42] 42 #[.slice oa H.length oc, .slice (some ⟨sb, 0, none⟩) 1 1]).run Tryz.prog w = .ok (.slice a' (H.length + 1) c') w' ∧ XV w' xb t ai dd K ∧ w'.cell? ⟨dd, 2, none⟩ = some (.int .i64 no) ∧ (∃ v, w'.cell? ⟨xb, 3, none⟩ = some v) ∧ w.heap.size ≤ w'.heap.size ∧
      QY w0 (w'.setCell ⟨xb, 3, none⟩ (.slice a' (H.length + 1) c')) xb t ai dd K c0 (k + 1) g C gd L no M (H ++ [x]) := by
  have hlk := h.hk
  obtain ⟨a', c', w', ρ', hr, ho, hu⟩ := h.oth.push h.tq.bw.ro (by omega) hs
  have hxk := hu.heap h.xk (by rw [h.xr]; simp)
  have hdk := hu.heap h.dk (by rw [h.dr]; simp)
  have hxr : ρ' xb = 7 := by rw [← h.xr]; exact hu.role _ (heap_lt h.xk)
  have hro := h.tq.bw.ro.step hu (by simp)
  have hU : RU [7] w' (w'.setCell ⟨xb, 3, none⟩ (.slice a' (H.length + 1) c')) ρ' ρ' := RU.upd hro ((Upd.refl [xb] _).setCell (by simp) _) (fun k hk _ => by simp at hk; subst hk; simp [hxr])
  have hUU := (hu.mono (rs' := [7, 8]) (by simp)).trans (hU.mono (rs' := [7, 8]) (by simp))
  have hv : XV w' xb t ai dd K := by
    refine ⟨?_, ?_, ?_, heap_lt hxk, heap_lt hdk, fun i => frozen_of_heap hxk i, fun i => frozen_of_heap hdk i, fun y hy => hu.heap (h.kk y hy).2 (by rw [(h.kk y hy).1]; simp)⟩ <;> rw [cell_of_heap hxk] <;> rfl
  refine ⟨a', c', w', hr, hv, by rw [cell_of_heap hdk]; rfl, ⟨_, by rw [cell_of_heap hxk]; rfl⟩, hu.size, _, dI, a', c', wa, wc, h.setX hUU (H' := H ++ [x]) ?_ (ho.ru hU (by simp)) (by omega) (by simp; omega)⟩
  rw [List.length_append]
  exact heap_set_same hxk 3 _
/-- The first handle. -/
theorem QX.first {x : Hd} (h : QX w0 w xb t ai dd K c0 k g C gd L no M (x :: H) T dI oa oc wa wc) : ∃ b off, oa = some ⟨b, off, none⟩ ∧ H.length + 1 ≤ oc ∧ oc ≤ maxLen ∧ w.cell? ⟨b, off, none⟩ = some (.int .i64 x.1) ∧ w.cell? ⟨b, off + 1, none⟩ = some (.int .u64 x.2) ∧ b < w.heap.size := by
  obtain ⟨b, off, e1, e2, e3, e4⟩ := h.oth.first
  exact ⟨b, off, e1, h.oth.le, h.oth.mx, e2, e3, e4⟩
theorem QX.pop {x : Hd} {b off : Nat} (h : QX w0 w xb t ai dd K c0 k g C gd L no M (x :: H) T dI (some ⟨b, off, none⟩) oc wa wc) :
    QY w0 (w.setCell ⟨xb, 3, none⟩ (.slice (if oc = 1 then some ⟨b, off, none⟩ else some ⟨b, off + 2, none⟩) H.length (oc - 1))) xb t ai dd K c0 k g C gd L no M H := by
  have hU : RU [7] w (w.setCell ⟨xb, 3, none⟩ (.slice (if oc = 1 then some ⟨b, off, none⟩ else some ⟨b, off + 2, none⟩) H.length (oc - 1))) T.ρ T.ρ := RU.upd h.tq.bw.ro ((Upd.refl [xb] _).setCell (by simp) _) (fun k hk _ => by simp at hk; subst hk; simp [h.xr])
  have := h.hk
  simp at this
  exact ⟨_, dI, _, _, wa, wc, h.setX (hU.mono (by simp)) (heap_set_same h.xk 3 _) (h.oth.pop.ru hU (by simp)) (Nat.le_refl k) (by omega)⟩
/-- How many others there are. -/
theorem QX.count (h : QX w0 w xb t ai dd K c0 k g C gd L no M H T dI oa oc wa wc) (n : Nat) : QY w0 (w.setCell ⟨dd, 2, none⟩ (.int .i64 n)) xb t ai dd K c0 k g C gd L n M H :=
  ⟨T, dI, oa, oc, wa, wc, h.setD ((Upd.refl [dd] _).setCell (by simp) _) (heap_set_same h.dk 2 _) h.kp (Nat.le_refl k) h.lk h.ks⟩
/-! ### The document's tree -/
def dputR (g : Bool) (L : Cont) (n c0 : Nat) (key v : Str) : Str × Bool × Int := if g = true then (s0, false, 8) else if nodesN L < nodesN (cwith L key v) ∧ c0 < nodesN (cwith L key v) + n then (s0, false, 5) else ((cget L key).getD s0, (cget L key).isSome, 0)
def dputK (g : Bool) (L : Cont) (n c0 : Nat) (key v : Str) : Bool := !g && !decide (nodesN L < nodesN (cwith L key v) ∧ c0 < nodesN (cwith L key v) + n)
theorem QX.far (h : QX w0 w xb t ai dd K c0 k g C gd L no M H T dI oa oc wa wc) : ∀ k, w.heap.size ≤ k → T.ρ k = 0 := h.tq.bw.ro.far
theorem QX.newRow (h : QX w0 w xb t ai dd K c0 k g C gd L no M H T dI oa oc wa wc) {a : Option Addr} {c k' : Nat} {L' : Cont} (hb : Below w.heap.size w w1) (hr : Row w.heap.size 57 2 pcel w1 (.slice a L'.length c) L') (hk : k ≤ k') (hl : L'.length ≤ k') (hs : ∀ x : Str × Str, x ∈ L' → x.1.size ≤ 60) :
    QY w0 (w1.setCell ⟨dd, 0, none⟩ (.slice a L'.length c)) xb t ai dd K c0 k' g C gd L' no M H :=
  ⟨T, dI, oa, oc, a, c, (h.below hb).setD ((Upd.refl [dd] _).setCell (by simp) _) (heap_set_same (Below.heap' hb h.dk) 0 _) (KpA.row hr h.far) hk hl hs⟩
theorem QX.dput (h : QX w0 w xb t ai dd K c0 k g C gd L no M H T dI oa oc wa wc) (hk : k ≤ 300) (hc : c0 ≤ 100000 ∧ no ≤ 100000) (key v : Str) (hkey : key.size ≤ 60) :
    Calls Tryz.prog 31 #[.pointer (some ⟨dd, 0, none⟩), .string key, .string v] w fun e w' => e = .returned (tup3 (dputR gd L no c0 key v)) ∧ QY w0 w' xb t ai dd K c0 (k + 1) g C gd (if dputK gd L no c0 key v = true then cwith L key v else L) no M H := by
  have hlk := h.lk
  refine (r12put_any (h.dt (by omega)) key v (Nat.le_trans hkey (by simp [maxLen])) hc).mono ?_
  rintro e w' (⟨rfl, rfl, rfl⟩ | ⟨rfl, h1, rfl, hb⟩ | ⟨rfl, h1, rfl, a', c', w1, hb, hr, rfl⟩)
  · exact ⟨rfl, T, dI, oa, oc, wa, wc, h.up (by omega)⟩
  · have e1 : dputR false L no c0 key v = (s0, false, 5) := by simp only [dputR]; rw [if_neg (by simp), if_pos h1]
    have e2 : dputK false L no c0 key v = false := by simp only [dputK]; rw [decide_eq_true h1]; rfl
    rw [e1, e2]
    exact ⟨rfl, T, dI, oa, oc, wa, wc, (h.below hb).up (by omega)⟩
  · have e1 : dputR false L no c0 key v = ((cget L key).getD s0, (cget L key).isSome, 0) := by simp only [dputR]; rw [if_neg (by simp), if_neg h1]
    have e2 : dputK false L no c0 key v = true := by simp only [dputK]; rw [decide_eq_false h1]; rfl
    rw [e1, e2, if_pos rfl]
    refine ⟨rfl, h.newRow hb hr (by omega) (by have := cwith_len L key v; omega) fun x hx => ?_⟩
    unfold cwith at hx
    rcases List.mem_append.1 hx with h2 | h2
    · exact h.ks x (List.mem_filter.1 h2).1
    · rw [List.mem_singleton.1 h2]; exact hkey
theorem QX.ddel (h : QX w0 w xb t ai dd K c0 k g C gd L no M H T dI oa oc wa wc) (hk : k ≤ 300) (key : Str) :
    Calls Tryz.prog 32 #[.pointer (some ⟨dd, 0, none⟩), .string key] w fun e w' => e = .returned (.tuple #[.string ((cget L key).getD s0), .bool (cget L key).isSome]) ∧ QY w0 w' xb t ai dd K c0 k g C gd (cdel L key) no M H := by
  have hlk := h.lk
  have hle : (cdel L key).length ≤ L.length := List.length_filter_le _ _
  refine (r12del_any (h.dt (by omega)) key).mono ?_
  rintro e w' ⟨rfl, a', c', w1, hb, hr, rfl⟩
  exact ⟨rfl, h.newRow hb hr (Nat.le_refl k) (by omega) fun x hx => h.ks x (List.mem_filter.1 hx).1⟩
theorem QX.ddrop (h : QX w0 w xb t ai dd K c0 k g C gd L no M H T dI oa oc wa wc) (hk : k ≤ 300) :
    Calls Tryz.prog 35 #[.pointer (some ⟨dd, 0, none⟩)] w fun e w' => e = .returned (.tuple #[]) ∧ QY w0 w' xb t ai dd K c0 k g C true [] no M H := by
  refine (r12drop_any (h.dt (by omega))).mono ?_
  rintro e w' ⟨rfl, rfl⟩
  exact ⟨rfl, T, dI, oa, oc, none, 0, h.setD (((Upd.refl [dd] _).setCell (p := ⟨dd, 0, none⟩) (by simp) _).setCell (p := ⟨dd, 3, none⟩) (by simp) _) (heap_set_same (heap_set_same h.dk 0 _) 3 _) (KpA.nil _ _) (Nat.le_refl k) (Nat.zero_le _) (by simp)⟩
/-- Both say the same of a Put. -/
theorem put_same {C L : Cont} {n c0 : Nat} (hp : L.Perm C) (hs : CSort C) (g : Bool) (hroom : g = false → nodesN C + n ≤ c0) (key v : Str) : dputR g L n c0 key v = putR g C n c0 key v ∧ dputK g L n c0 key v = putK g C n c0 key v := by
  cases g with
  | true => exact ⟨rfl, rfl⟩
  | false =>
    have hr := hroom rfl
    have e1 : nodesN L = nodesN C := nodesN_mem fun x => hp.mem_iff
    have e2 : nodesN (cwith L key v) = nodesN (cput C key v) := nodesN_mem fun x => (cwith_perm hp key v).mem_iff
    have e3 := cget_perm hp hs key
    unfold dputR dputK putR putK
    rw [e1, e2, e3]
    by_cases hle : nodesN (cput C key v) + n ≤ c0
    · have h1 : ¬ (nodesN C < nodesN (cput C key v) ∧ c0 < nodesN (cput C key v) + n) := by omega
      simp [h1, hle]
    · have h1 : nodesN C < nodesN (cput C key v) ∧ c0 < nodesN (cput C key v) + n := by omega
      simp [h1, hle]
end
end Go.Proofs.YtmhlokomlngdmaaGreat
