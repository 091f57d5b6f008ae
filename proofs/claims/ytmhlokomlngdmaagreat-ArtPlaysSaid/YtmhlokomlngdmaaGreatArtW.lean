/- The world of a trie: its pool, its arena, its nodes, their children. -/
import Derived.Test.YtmhlokomlngdmaaGreatArtDr
import Derived.Test.YtmhlokomlngdmaaGreatArtN
import Derived.Test.YtmhlokomlngdmaaGreatArs
import Derived.Test.YtmhlokomlngdmaaGreatArenaOfSAnode
namespace Go.Proofs.YtmhlokomlngdmaaGreat
open Go.RowKit
structure BW (w0 w : World) (ρ : Nat → Nat) (P : Nat × Nat × Nat) (gens : List Int) (free : List Bool) (D : List ArD) : Prop where
  ro : Ro w0 w ρ
  ars : Ars w ρ (some P) gens free D
/-- Children: each node block has its own. -/
def KW (w : World) (ρ : Nat → Nat) (K : Nat → Option KL) : Prop := ∃ own : Nat → Nat, ∀ nb L, K nb = some L → ∃ B, KAt w nb B L ∧ ∀ q, q ∈ B → ρ q = 5 ∧ own q = nb
def updK (K : Nat → Option KL) (nb : Nat) (L : KL) (k : Nat) : Option KL := if k = nb then some L else K k
theorem updK_self {K : Nat → Option KL} {nb : Nat} {L : KL} : updK K nb L nb = some L := if_pos rfl
theorem updK_other {K : Nat → Option KL} {nb k : Nat} {L : KL} (h : k ≠ nb) : updK K nb L k = K k := if_neg h
def nxs (n : AN) : List Value := [.string n.pre, .string (n.val.getD s0), .bool n.val.isSome, .pointer (some ⟨n.nb, 0, none⟩)]
theorem RU.toUpd {w w' : World} {ρ ρ' : Nat → Nat} {rs : List Nat} (h : RU rs w w' ρ ρ') : Upd ((List.range w.heap.size).filter fun k => decide (ρ k ∈ rs)) w w' :=
  ⟨h.os, h.tape, h.output, h.size, fun k hk hn => h.block k hk fun hr => hn (List.mem_filter.2 ⟨List.mem_range.2 hk, by simpa using hr⟩)⟩
section
variable {w0 w w' : World} {ρ ρ' : Nat → Nat} {P : Nat × Nat × Nat} {gens : List Int} {free : List Bool} {D : List ArD} {rs S : List Nat} {i t : Nat} {d : ArD} {K : Nat → Option KL} {nb : Nat} {B : List Nat} {L : KL}
theorem KAt.lt (h : KAt w nb B L) : ∀ q, q ∈ B → q < w.heap.size := by
  obtain ⟨_, sb, v, kind, h1, h2⟩ := h
  intro q hq
  cases h2 with
  | so kind hk hl n ka ha kc hc h hB =>
    rw [hB] at hq
    rcases List.mem_cons.1 hq with rfl | hq
    · exact heap_lt h1
    · rcases List.mem_cons.1 hq with rfl | hq
      · exact heap_lt h.blk
      · rcases List.mem_append.1 hq with hq | hq
        · obtain ⟨c', hc'⟩ := h.ky.tagB (ob_mem.1 hq); exact heap_lt hc'
        · obtain ⟨c', hc'⟩ := h.kd.tagB (ob_mem.1 hq); exact heap_lt hc'
  | ix hl pl kd us h hB =>
    obtain ⟨cur, hcu, _⟩ := h.ex
    rw [hB] at hq
    simp only [List.mem_cons, List.not_mem_nil, or_false] at hq
    rcases hq with rfl | rfl
    · exact heap_lt h1
    · exact heap_lt hcu
  | di h hB =>
    obtain ⟨cur, hcu, _⟩ := h.ex
    rw [hB] at hq
    simp only [List.mem_cons, List.not_mem_nil, or_false] at hq
    rcases hq with rfl | rfl
    · exact heap_lt h1
    · exact heap_lt hcu
theorem KAt.upd (h : KAt w nb B L) (hu : Upd S w w') (hd : ∀ q, q ∈ B → q ∉ S) : KAt w' nb B L := by
  have hm := hd _ h.mem
  obtain ⟨hs, sb, v, kind, h1, h2⟩ := h
  refine ⟨hs, sb, v, kind, hu.heap h1 hm, ?_⟩
  cases h2 with
  | so kind hk hl n ka ha kc hc h hB =>
    subst hB
    refine .so kind hk hl n ka ha kc hc (h.upd hu (hd _ (by simp)) (fun q hq => hd _ ?_) fun q hq => hd _ ?_) rfl
    · simp [hq]
    · simp [hq]
  | ix hl pl kd us h hB => subst hB; exact .ix hl pl kd us (h.upd hu (hd _ (by simp))) rfl
  | di h hB => subst hB; exact .di (h.upd hu (hd _ (by simp))) rfl
theorem KAt.ru (h : KAt w nb B L) (hu : RU rs w w' ρ ρ') (hd : ∀ q, q ∈ B → ρ q ∉ rs) : KAt w' nb B L :=
  h.upd hu.toUpd fun q hq hm => hd q hq (by simpa using (List.mem_filter.1 hm).2)
theorem KW.ru (h : KW w ρ K) (hu : RU rs w w' ρ ρ') (h5 : 5 ∉ rs) : KW w' ρ' K := by
  obtain ⟨own, h⟩ := h
  refine ⟨own, fun nb L hL => ?_⟩
  obtain ⟨B, h1, h2⟩ := h nb L hL
  exact ⟨B, h1.ru hu fun q hq => by rw [(h2 q hq).1]; exact h5, fun q hq => ⟨by rw [hu.role _ (h1.lt q hq)]; exact (h2 q hq).1, (h2 q hq).2⟩⟩
/-- Marks for new blocks. -/
def mkN (ρ : Nat → Nat) (n : Nat) (B : List Nat) (r : Nat) (q : Nat) : Nat := if q < n then ρ q else if q ∈ B then r else 0
theorem mkN_old {n q r : Nat} (h : q < n) : mkN ρ n B r q = ρ q := if_pos h
theorem mkN_new {n q r : Nat} (h : n ≤ q) (hq : q ∈ B) : mkN ρ n B r q = r := by unfold mkN; rw [if_neg (by omega), if_pos hq]
theorem RU.mkN (hu : Upd S w w') (hS : ∀ k, k ∈ S → k < w.heap.size → ρ k ∈ rs) (hB : ∀ q, q ∈ B → q < w'.heap.size) (r : Nat) : RU rs w w' ρ (mkN ρ w.heap.size B r) :=
  ⟨hu.os, hu.tape, hu.output, hu.size, fun k hk hn => hu.block k hk fun hm => hn (hS k hm hk), fun k hk => mkN_old hk, fun k hk => by
    have := hu.size
    unfold Go.Proofs.YtmhlokomlngdmaaGreat.mkN
    rw [if_neg (by omega), if_neg (fun hm => by have := hB k hm; omega)]⟩
/-- One node's children turn. -/
theorem KW.put (h : KW w ρ K) (hL : K nb = some L) : ∃ B, KAt w nb B L ∧ (∀ q, q ∈ B → ρ q = 5) ∧ ∀ w' L', KEnd w nb B L' w' → ∃ ρ', RU [5] w w' ρ ρ' ∧ KW w' ρ' (updK K nb L') := by
  obtain ⟨own, h⟩ := h
  obtain ⟨B, h1, h2⟩ := h nb L hL
  refine ⟨B, h1, fun q hq => (h2 q hq).1, fun w' L' hE => ?_⟩
  obtain ⟨⟨B', e1, e2⟩, hu⟩ := hE
  refine ⟨mkN ρ w.heap.size B' 5, RU.mkN hu (fun k hk _ => by simp [(h2 k hk).1]) e1.lt 5, fun q => if q < w.heap.size then own q else nb, fun n2 L2 h3 => ?_⟩
  by_cases he : n2 = nb
  · subst he
    rw [updK_self] at h3
    injection h3 with h3
    subst h3
    refine ⟨B', e1, fun q hq => ?_⟩
    by_cases hq1 : q < w.heap.size
    · have hqB := (e2 q hq).resolve_right (by omega)
      rw [mkN_old hq1]
      dsimp only
      rw [if_pos hq1]
      exact h2 q hqB
    · rw [mkN_new (by omega) hq]
      dsimp only
      rw [if_neg hq1]
      exact ⟨rfl, rfl⟩
  · rw [updK_other he] at h3
    obtain ⟨B2, q1, q2⟩ := h n2 L2 h3
    refine ⟨B2, q1.upd hu fun q hq hm => he ?_, fun q hq => ?_⟩
    · rw [← (q2 q hq).2, ← (h2 q hm).2]
    · have := q1.lt q hq
      rw [mkN_old this]
      dsimp only
      rw [if_pos this]
      exact q2 q hq
/-- A new node's children. -/
theorem KW.new (h : KW w ρ K) (hb : Below w.heap.size w w') (hk : KAt w' nb B L) (hB : ∀ q, q ∈ B → w.heap.size ≤ q) : ∃ ρ', RU [] w w' ρ ρ' ∧ KW w' ρ' (updK K nb L) ∧ K nb = none := by
  obtain ⟨own, h⟩ := h
  have hnb := hB _ hk.mem
  refine ⟨mkN ρ w.heap.size B 5, RU.mkN (Upd.of_below (S := []) hb) (by simp) hk.lt 5, ⟨fun q => if q < w.heap.size then own q else nb, fun n2 L2 h3 => ?_⟩, ?_⟩
  · by_cases he : n2 = nb
    · subst he
      rw [updK_self] at h3
      injection h3 with h3
      subst h3
      refine ⟨B, hk, fun q hq => ?_⟩
      have := hB q hq
      rw [mkN_new this hq]
      dsimp only
      rw [if_neg (by omega)]
      exact ⟨rfl, rfl⟩
    · rw [updK_other he] at h3
      obtain ⟨B2, q1, q2⟩ := h n2 L2 h3
      refine ⟨B2, q1.below hb, fun q hq => ?_⟩
      have := q1.lt q hq
      rw [mkN_old this]
      dsimp only
      rw [if_pos this]
      exact q2 q hq
  · cases hL : K nb with
    | none => rfl
    | some L2 =>
      obtain ⟨B2, q1, _⟩ := h nb L2 hL
      have := q1.lt _ q1.mem
      omega
theorem BW.below (h : BW w0 w ρ P gens free D) (hb : Below w.heap.size w w') : BW w0 w' ρ P gens free D := ⟨h.ro.step (RU.below (rs := []) h.ro hb) (by simp), h.ars.below h.ro hb⟩
theorem BW.ru (h : BW w0 w ρ P gens free D) (hu : RU rs w w' ρ ρ') (hr : ∀ r, r ∈ rs → 4 ≤ r ∧ r ≤ 9) : BW w0 w' ρ' P gens free D := ⟨h.ro.step hu (fun h0 => by have := hr 0 h0; omega), h.ars.ru hu hr⟩
theorem KW.below (h : KW w ρ K) (hro : Ro w0 w ρ) (hb : Below w.heap.size w w') : KW w' ρ K := h.ru (RU.below (rs := []) hro hb) (by simp)
theorem BW.ag (h : BW w0 w ρ P gens free D) (hd : D[i]? = some d) (ta : d.ta = 125) (tc : d.tc = 129) : AAnode.AG w [] (some ⟨P.1, 0, none⟩) d.A := by
  have := (h.ars.ar i d hd).g
  rw [ta, tc] at this
  exact this
/-- A node that is alive, and one that is not. -/
theorem BW.get (h : BW w0 w ρ P gens free D) (hd : D[i]? = some d) (ta : d.ta = 125) (tc : d.tc = 129) {e : AEnt} {hh : Hd} (he : e ∈ d.A.L) (h1 : (e.slot : Int) = hh.1) (h2 : e.gen = hh.2) :
    Calls Tryz.prog 51 #[.pointer (some ⟨d.A.a, 0, none⟩), hV hh] w fun x w' => x = .returned (.tuple #[.pointer (some ⟨e.blk, 1, none⟩), .bool true]) ∧ Below w.heap.size w w' :=
  AAnode.gGet_some d.A [] _ hh.1 hh.2 e w (h.ag hd ta tc) he h1.symm h2
theorem BW.dead (h : BW w0 w ρ P gens free D) (hd : D[i]? = some d) (ta : d.ta = 125) (tc : d.tc = 129) {hh : Hd} (hn : ∀ e, e ∈ d.A.L → ¬ (hh.1 = (e.slot : Int) ∧ e.gen = hh.2)) :
    Calls Tryz.prog 51 #[.pointer (some ⟨d.A.a, 0, none⟩), hV hh] w fun x w' => x = .returned (.tuple #[.pointer none, .bool false]) ∧ Below w.heap.size w w' :=
  AAnode.gGet_none d.A [] _ hh.1 hh.2 w (h.ag hd ta tc) hn
theorem BW.cellsOf (h : BW w0 w ρ P gens free D) (hd : D[i]? = some d) (tc : d.tc = 129) {e : AEnt} (he : e ∈ d.A.L) : w.heap[e.blk]? = some (.cells (.int .u64 e.gen :: e.xs).toArray 129) := by
  have := ((h.ars.ar i d hd).g.2.2.2.2.2 e he).2
  rw [tc] at this
  exact this
theorem nxs_cells {q : Nat} {g : Value} {tc : TypeId} {n : AN} (h : w.heap[q]? = some (.cells (g :: nxs n).toArray tc)) :
    w.cell? ⟨q, 1, none⟩ = some (.string n.pre) ∧ w.cell? ⟨q, 2, none⟩ = some (.string (n.val.getD s0)) ∧ w.cell? ⟨q, 3, none⟩ = some (.bool n.val.isSome) ∧ w.cell? ⟨q, 4, none⟩ = some (.pointer (some ⟨n.nb, 0, none⟩)) ∧ q < w.heap.size := by
  refine ⟨?_, ?_, ?_, ?_, heap_lt h⟩ <;> rw [cell_of_heap h] <;> rfl
end
/-- A tree in memory, as plain data. -/
structure TS where
  ρ : Nat → Nat
  P : Nat × Nat × Nat
  gens : List Int
  free : List Bool
  D : List ArD
  i : Nat
  t : Nat
  d : ArD
  r : Hd
  n : Nat
  F : AF
  K : Nat → Option KL
structure AM (w0 w : World) (T : TS) : Prop where
  bw : BW w0 w T.ρ T.P T.gens T.free T.D
  hd : T.D[T.i]? = some T.d
  ta : T.d.ta = 125
  tc : T.d.tc = 129
  rol : T.ρ T.t = 4
  blk : w.heap[T.t]? = some (.cells #[.pointer (some ⟨T.P.1, 0, none⟩), .pointer (some ⟨T.d.A.a, 0, none⟩), .int .i64 T.r.1, .int .u64 T.r.2, .int .i64 T.n, .bool false] 79)
  ent : ∀ x, x ∈ T.F → ∃ e, e ∈ T.d.A.L ∧ (e.slot : Int) = x.1.1 ∧ e.gen = x.1.2 ∧ e.xs = nxs x.2
  kid : ∀ x, x ∈ T.F → T.K x.2.nb = some x.2.kids
  ndf : (T.F.map (·.1)).Nodup
  kw : KW w T.ρ T.K
  len : T.d.A.L.length = T.F.length
  sep : ∀ j d' e e', j ≠ T.i → T.D[j]? = some d' → e ∈ d'.A.L → e' ∈ T.d.A.L → e.slot ≠ e'.slot
  cnt : T.free.count true + (T.D.map fun d => d.A.L.length).sum = T.free.length
structure TEv (w w' : World) (T T' : TS) : Prop where
  ru : RU [1, 2, 3, 4, 5, 10 + 3 * T.i, 12 + 3 * T.i] w w' T.ρ T'.ρ
  P : T'.P = T.P
  i : T'.i = T.i
  t : T'.t = T.t
  r : T'.r = T.r
  a : T'.d.A.a = T.d.A.a
  m : T'.d.A.m = T.d.A.m
  kd : ∀ nb, (T.K nb).isSome = true → (T'.K nb).isSome = true
  dl : T'.D.length = T.D.length
  dj : ∀ j, j ≠ T.i → T'.D[j]? = T.D[j]?
  fl : T'.free.length = T.free.length
section
variable {w0 w w' w1 : World} {T T1 T2 : TS} {x : Hd × AN} {e : AEnt} {S : List Nat}
theorem TEv.refl (h : AM w0 w T) : TEv w w T T := ⟨(RU.refl (rs := []) h.bw.ro).mono (by simp), rfl, rfl, rfl, rfl, rfl, rfl, fun _ h => h, rfl, fun _ _ => rfl, rfl⟩
theorem TEv.trans (h : TEv w w1 T T1) (k : TEv w1 w' T1 T2) : TEv w w' T T2 := by
  have hr := k.ru
  rw [h.i] at hr
  exact ⟨h.ru.trans hr, k.P.trans h.P, k.i.trans h.i, k.t.trans h.t, k.r.trans h.r, k.a.trans h.a, k.m.trans h.m, fun nb hh => k.kd nb (h.kd nb hh), k.dl.trans h.dl, fun j hj => (k.dj j (by rw [h.i]; exact hj)).trans (h.dj j hj), k.fl.trans h.fl⟩
theorem AM.below (h : AM w0 w T) (hb : Below w.heap.size w w') : AM w0 w' T :=
  ⟨h.bw.below hb, h.hd, h.ta, h.tc, h.rol, Below.heap' hb h.blk, h.ent, h.kid, h.ndf, h.kw.below h.bw.ro hb, h.len, h.sep, h.cnt⟩
theorem TEv.below (h : AM w0 w T) (hb : Below w.heap.size w w') : TEv w w' T T := ⟨(RU.below (rs := []) h.bw.ro hb).mono (by simp), rfl, rfl, rfl, rfl, rfl, rfl, fun _ h => h, rfl, fun _ _ => rfl, rfl⟩
/-- Blocks of the law's own are written. -/
theorem AM.ru {rs : List Nat} {ρ' : Nat → Nat} (h : AM w0 w T) (hu : RU rs w w' T.ρ ρ') (hr : ∀ r, r ∈ rs → 6 ≤ r ∧ r ≤ 9) : AM w0 w' { T with ρ := ρ' } :=
  ⟨h.bw.ru hu (fun r hm => by have := hr r hm; omega), h.hd, h.ta, h.tc, by rw [← h.rol]; exact hu.role _ (heap_lt h.blk), hu.heap h.blk (by rw [h.rol]; exact fun hm => by have := hr 4 hm; omega), h.ent, h.kid, h.ndf, h.kw.ru hu (fun hm => by have := hr 5 hm; omega), h.len, h.sep, h.cnt⟩
theorem AM.cells (h : AM w0 w T) :
    w.cell? ⟨T.t, 0, none⟩ = some (.pointer (some ⟨T.P.1, 0, none⟩)) ∧ w.cell? ⟨T.t, 1, none⟩ = some (.pointer (some ⟨T.d.A.a, 0, none⟩)) ∧ w.cell? ⟨T.t, 2, none⟩ = some (.int .i64 T.r.1) ∧ w.cell? ⟨T.t, 3, none⟩ = some (.int .u64 T.r.2) ∧ w.cell? ⟨T.t, 4, none⟩ = some (.int .i64 T.n) ∧ w.cell? ⟨T.t, 5, none⟩ = some (.bool false) ∧ T.t < w.heap.size := by
  refine ⟨?_, ?_, ?_, ?_, ?_, ?_, heap_lt h.blk⟩ <;> rw [cell_of_heap h.blk] <;> rfl
theorem AM.slots (h : AM w0 w T) : (T.d.A.L.map AEnt.slot).Nodup := (h.bw.ars.ar T.i T.d h.hd).g.2.2.2.1
theorem slot_uniq {L : List AEnt} (hn : (L.map AEnt.slot).Nodup) {e x : AEnt} (he : e ∈ L) (hx : x ∈ L) (hs : e.slot = x.slot) : e = x := nodup_inj hn he hx hs
/-- Each entry is a node's. -/
theorem AM.node (h : AM w0 w T) (he : e ∈ T.d.A.L) : ∃ x, x ∈ T.F ∧ (e.slot : Int) = x.1.1 ∧ e.gen = x.1.2 := by
  have h1 : ∀ (F : AF) (L : List AEnt), (F.map (·.1)).Nodup → (∀ x, x ∈ F → ∃ e, e ∈ L ∧ (e.slot : Int) = x.1.1 ∧ e.gen = x.1.2) → L.length ≤ F.length → ∀ e, e ∈ L → ∃ x, x ∈ F ∧ (e.slot : Int) = x.1.1 ∧ e.gen = x.1.2 := by
    intro F L hF hL hl e he
    have hsub := nd_sub_len (l := F.map (·.1)) (m := (L.map fun e => ((e.slot : Int), e.gen)).erase ((e.slot : Int), e.gen))
    by_cases hm : ((e.slot : Int), e.gen) ∈ F.map (·.1)
    · obtain ⟨x, hx, hxe⟩ := List.mem_map.1 hm
      exact ⟨x, hx, by rw [hxe], by rw [hxe]⟩
    · exfalso
      have := hsub hF (fun a ha => by
        obtain ⟨x, hx, rfl⟩ := List.mem_map.1 ha
        obtain ⟨y, hy, h1, h2⟩ := hL x hx
        refine (List.mem_erase_of_ne (fun hh => hm (by rw [← hh]; exact ha))).2 (List.mem_map.2 ⟨y, hy, Prod.ext h1 h2⟩))
      rw [List.length_erase_of_mem (List.mem_map.2 ⟨e, he, rfl⟩), List.length_map, List.length_map] at this
      have : 0 < L.length := List.length_pos_of_mem he
      omega
  exact h1 T.F T.d.A.L h.ndf (fun x hx => by obtain ⟨e, a, b, c, _⟩ := h.ent x hx; exact ⟨e, a, b, c⟩) (by rw [h.len]; exact Nat.le_refl _) e he
/-- A node that is alive. -/
theorem AM.get (h : AM w0 w T) (hx : x ∈ T.F) : ∃ e, e ∈ T.d.A.L ∧ (e.slot : Int) = x.1.1 ∧ e.gen = x.1.2 ∧ w.heap[e.blk]? = some (.cells (.int .u64 e.gen :: nxs x.2).toArray 129) ∧
    ∀ W, Below w.heap.size w W → Calls Tryz.prog 51 #[.pointer (some ⟨T.d.A.a, 0, none⟩), hV x.1] W fun y W' => y = .returned (.tuple #[.pointer (some ⟨e.blk, 1, none⟩), .bool true]) ∧ Below W.heap.size W W' := by
  obtain ⟨e, e1, e2, e3, e4⟩ := h.ent x hx
  refine ⟨e, e1, e2, e3, ?_, fun W hW => (h.below hW).bw.get h.hd h.ta h.tc e1 e2 e3⟩
  have := h.bw.cellsOf h.hd h.tc e1
  rw [e4] at this
  exact this
/-- A handle of no node. -/
theorem AM.dead (h : AM w0 w T) {g : Hd} (hg : ∀ x, x ∈ T.F → x.1 ≠ g) (W : World) (hW : Below w.heap.size w W) :
    Calls Tryz.prog 51 #[.pointer (some ⟨T.d.A.a, 0, none⟩), hV g] W fun y W' => y = .returned (.tuple #[.pointer none, .bool false]) ∧ Below W.heap.size W W' :=
  (h.below hW).bw.dead h.hd h.ta h.tc fun e he hh => by
    obtain ⟨x, hx, h1, h2⟩ := h.node he
    exact hg x hx (Prod.ext (by rw [hh.1, h1]) (by rw [← hh.2, h2]))
theorem sum_set {D : List ArD} {i : Nat} {d d' : ArD} (h : D[i]? = some d) : ((D.set i d').map fun d => d.A.L.length).sum + d.A.L.length = (D.map fun d => d.A.L.length).sum + d'.A.L.length := by
  induction D generalizing i with
  | nil => simp at h
  | cons a D ih =>
    cases i with
    | zero => simp at h; subst h; simp; omega
    | succ i => have := ih (i := i) (by simpa using h); simp only [List.set_cons_succ, List.map_cons, List.sum_cons]; omega
/-- A node is written. -/
theorem AM.store (h : AM w0 w T) (hx : x ∈ T.F) (he : e ∈ T.d.A.L) (e1 : (e.slot : Int) = x.1.1) (e2 : e.gen = x.1.2) (n' : AN) (hk : T.K n'.nb = some n'.kids) (hu : Upd [e.blk] w w')
    (hb : w'.heap[e.blk]? = some (.cells (.int .u64 e.gen :: nxs n').toArray 129)) :
    ∃ T', AM w0 w' T' ∧ TEv w w' T T' ∧ T'.F = aset T.F x.1 n' ∧ T'.K = T.K ∧ T'.n = T.n ∧ T'.free = T.free := by
  obtain ⟨q1, q2⟩ := h.bw.ars.write h.bw.ro h.hd he hu (xs := nxs n') (by rw [h.tc]; exact hb)
  have hlt : T.i < T.D.length := (List.getElem?_eq_some_iff.1 h.hd).1
  have hmem := fun z => mem_aset (F := T.F) (h := x.1) (n := n') (z := z) ⟨x.2, hx⟩
  refine ⟨{ T with D := T.D.set T.i { T.d with A := { T.d.A with L := T.d.A.L.map fun y => if y.slot = e.slot then { y with xs := nxs n' } else y } }, d := { T.d with A := { T.d.A with L := T.d.A.L.map fun y => if y.slot = e.slot then { y with xs := nxs n' } else y } }, F := aset T.F x.1 n' }, ⟨⟨h.bw.ro.step q2 (by simp; omega), q1⟩, by simp [hlt], h.ta, h.tc, h.rol, q2.heap h.blk (by rw [h.rol]; simp; omega), ?_, ?_, ?_, h.kw.ru q2 (by simp; omega), ?_, ?_, ?_⟩, ⟨q2.mono (by simp), rfl, rfl, rfl, rfl, rfl, rfl, fun _ h => h, by simp, fun j hj => ?_, rfl⟩, rfl, rfl, rfl, rfl⟩
  · intro z hz
    rcases (hmem z).1 hz with rfl | ⟨hne, hz⟩
    · exact ⟨{ e with xs := nxs n' }, List.mem_map.2 ⟨e, he, by simp⟩, e1, e2, rfl⟩
    · obtain ⟨y, y1, y2, y3, y4⟩ := h.ent z hz
      have hs : y.slot ≠ e.slot := fun hs => by
        have := slot_uniq h.slots y1 he hs
        subst this
        exact hne (Prod.ext (by rw [← y2, e1]) (by rw [← y3, e2]))
      exact ⟨y, List.mem_map.2 ⟨y, y1, by simp [hs]⟩, y2, y3, y4⟩
  · intro z hz
    rcases (hmem z).1 hz with rfl | ⟨_, hz⟩
    · exact hk
    · exact h.kid z hz
  · show ((aset T.F x.1 n').map (·.1)).Nodup
    rw [aset_fst]; exact h.ndf
  · show (T.d.A.L.map _).length = (aset T.F x.1 n').length
    rw [aset_len, List.length_map]; exact h.len
  · intro j d' y y' hj hd' hy hy'
    have hd'' : (T.D.set T.i { T.d with A := { T.d.A with L := T.d.A.L.map fun y => if y.slot = e.slot then { y with xs := nxs n' } else y } })[j]? = some d' := hd'
    rcases get_set hd'' with ⟨hh, _⟩ | ⟨_, hd'⟩
    · exact absurd hh.symm hj
    · obtain ⟨y2, hy2, rfl⟩ := List.mem_map.1 hy'
      have := h.sep j d' y y2 hj hd' hy hy2
      split <;> exact this
  · have := sum_set (d' := { T.d with A := { T.d.A with L := T.d.A.L.map fun y => if y.slot = e.slot then { y with xs := nxs n' } else y } }) h.hd
    have hc := h.cnt
    simp only [List.length_map] at this
    show T.free.count true + ((T.D.set T.i _).map fun d => d.A.L.length).sum = T.free.length
    generalize ((T.D.set T.i _).map fun d => d.A.L.length).sum = z at this ⊢
    omega
  · exact List.getElem?_set_ne (fun hh => hj hh.symm)
/-- A tree's counter is written. -/
theorem AM.size (h : AM w0 w T) (n : Nat) (hu : Upd [T.t] w w')
    (hb : w'.heap[T.t]? = some (.cells #[.pointer (some ⟨T.P.1, 0, none⟩), .pointer (some ⟨T.d.A.a, 0, none⟩), .int .i64 T.r.1, .int .u64 T.r.2, .int .i64 n, .bool false] 79)) :
    AM w0 w' { T with n := n } ∧ TEv w w' T { T with n := n } := by
  have hU : RU [4] w w' T.ρ T.ρ := RU.upd h.bw.ro hu (fun k hk _ => by simp at hk; subst hk; simp [h.rol])
  exact ⟨⟨h.bw.ru hU (by simp), h.hd, h.ta, h.tc, h.rol, hb, h.ent, h.kid, h.ndf, h.kw.ru hU (by simp), h.len, h.sep, h.cnt⟩, ⟨hU.mono (by simp), rfl, rfl, rfl, rfl, rfl, rfl, fun _ h => h, rfl, fun _ _ => rfl, rfl⟩⟩
/-- A node's children turn: it alone has their block. -/
theorem AM.kput (h : AM w0 w T) (hx : x ∈ T.F) (hun : ∀ z, z ∈ T.F → z.2.nb = x.2.nb → z = x) :
    ∃ B, KAt w x.2.nb B x.2.kids ∧ (∀ q, q ∈ B → T.ρ q = 5) ∧ ∀ w' L', KEnd w x.2.nb B L' w' → ∃ T', AM w0 w' T' ∧ TEv w w' T T' ∧ T'.F = aset T.F x.1 { x.2 with kids := L' } ∧ T'.K = updK T.K x.2.nb L' ∧ T'.n = T.n ∧ T'.free = T.free := by
  obtain ⟨B, hk, h5, hB⟩ := h.kw.put (h.kid x hx)
  refine ⟨B, hk, h5, fun w' L' hE => ?_⟩
  obtain ⟨ρ', hU, hK⟩ := hB w' L' hE
  have hmem := fun z => mem_aset (F := T.F) (h := x.1) (n := { x.2 with kids := L' }) (z := z) ⟨x.2, hx⟩
  refine ⟨{ T with ρ := ρ', K := updK T.K x.2.nb L', F := aset T.F x.1 { x.2 with kids := L' } }, ⟨h.bw.ru hU (by simp), h.hd, h.ta, h.tc, by rw [← h.rol]; exact hU.role _ (heap_lt h.blk), hU.heap h.blk (by rw [h.rol]; simp), ?_, ?_, ?_, hK, ?_, h.sep, h.cnt⟩, ⟨hU.mono (by simp), rfl, rfl, rfl, rfl, rfl, rfl, fun nb hh => ?_, rfl, fun _ _ => rfl, rfl⟩, rfl, rfl, rfl, rfl⟩
  · intro z hz
    rcases (hmem z).1 hz with rfl | ⟨_, hz⟩
    · obtain ⟨e, e1, e2, e3, e4⟩ := h.ent x hx
      exact ⟨e, e1, e2, e3, e4⟩
    · exact h.ent z hz
  · intro z hz
    rcases (hmem z).1 hz with rfl | ⟨hne, hz⟩
    · exact updK_self
    · exact (updK_other (fun hh => hne (by rw [hun z hz hh]))).trans (h.kid z hz)
  · show ((aset T.F x.1 _).map (·.1)).Nodup
    rw [aset_fst]; exact h.ndf
  · show _ = (aset T.F x.1 _).length
    rw [aset_len]; exact h.len
  · show (updK T.K x.2.nb L' nb).isSome = true
    unfold updK
    split
    · rfl
    · exact hh
/-- Children of nobody turn. -/
theorem AM.kput0 (h : AM w0 w T) {nb : Nat} {L : KL} (hL : T.K nb = some L) (hun : ∀ z, z ∈ T.F → z.2.nb ≠ nb) :
    ∃ B, KAt w nb B L ∧ (∀ q, q ∈ B → T.ρ q = 5) ∧ ∀ w' L', KEnd w nb B L' w' → ∃ T', AM w0 w' T' ∧ TEv w w' T T' ∧ T'.F = T.F ∧ T'.K = updK T.K nb L' ∧ T'.n = T.n ∧ T'.free = T.free ∧ T'.d = T.d ∧ T'.gens = T.gens := by
  obtain ⟨B, hk, h5, hB⟩ := h.kw.put hL
  refine ⟨B, hk, h5, fun w' L' hE => ?_⟩
  obtain ⟨ρ', hU, hK⟩ := hB w' L' hE
  refine ⟨{ T with ρ := ρ', K := updK T.K nb L' }, ⟨h.bw.ru hU (by simp), h.hd, h.ta, h.tc, by rw [← h.rol]; exact hU.role _ (heap_lt h.blk), hU.heap h.blk (by rw [h.rol]; simp), h.ent, ?_, h.ndf, hK, h.len, h.sep, h.cnt⟩, ⟨hU.mono (by simp), rfl, rfl, rfl, rfl, rfl, rfl, fun k hh => ?_, rfl, fun _ _ => rfl, rfl⟩, rfl, rfl, rfl, rfl, rfl, rfl⟩
  · intro z hz
    exact (updK_other (hun z hz)).trans (h.kid z hz)
  · show (updK T.K nb L' k).isSome = true
    unfold updK
    split
    · rfl
    · exact hh
/-- New children of nobody. -/
theorem AM.knew (h : AM w0 w T) {nb : Nat} {B : List Nat} (hb : Below w.heap.size w w') (hk : KAt w' nb B []) (hB : ∀ q, q ∈ B → w.heap.size ≤ q) :
    ∃ T', AM w0 w' T' ∧ TEv w w' T T' ∧ T'.F = T.F ∧ T'.K = updK T.K nb [] ∧ T'.n = T.n ∧ T'.free = T.free ∧ T'.d = T.d ∧ T'.gens = T.gens ∧ ∀ z, z ∈ T.F → z.2.nb ≠ nb := by
  obtain ⟨ρ', hU, hK, hno⟩ := h.kw.new hb hk hB
  have hun : ∀ z, z ∈ T.F → z.2.nb ≠ nb := fun z hz hh => by have := h.kid z hz; rw [hh, hno] at this; cases this
  refine ⟨{ T with ρ := ρ', K := updK T.K nb [] }, ⟨h.bw.ru hU (by simp), h.hd, h.ta, h.tc, by rw [← h.rol]; exact hU.role _ (heap_lt h.blk), hU.heap h.blk (by rw [h.rol]; simp), h.ent, ?_, h.ndf, hK, h.len, h.sep, h.cnt⟩, ⟨hU.mono (by simp), rfl, rfl, rfl, rfl, rfl, rfl, fun k hh => ?_, rfl, fun _ _ => rfl, rfl⟩, rfl, rfl, rfl, rfl, rfl, rfl, hun⟩
  · intro z hz
    exact (updK_other (hun z hz)).trans (h.kid z hz)
  · show (updK T.K nb [] k).isSome = true
    unfold updK
    split
    · rfl
    · exact hh
theorem free_idx {free : List Bool} (h : true ∈ free) : free.idxOf true < free.length ∧ free[free.idxOf true]? = some true := by
  have h1 := List.idxOf_lt_length_iff.2 h
  exact ⟨h1, by rw [List.getElem?_eq_getElem h1, List.getElem_idxOf]⟩
/-- A node is put into the arena: there is room. -/
theorem AM.alloc (h : AM w0 w T) (n : AN) (hk : T.K n.nb = some n.kids) (hfr : true ∈ T.free) :
    ∃ g : Hd, (∀ z, z ∈ T.F → z.1 ≠ g) ∧ Calls Tryz.prog 29 #[.pointer (some ⟨T.d.A.a, 0, none⟩), .agg #[.string n.pre, .string (n.val.getD s0), .bool n.val.isSome, .pointer (some ⟨n.nb, 0, none⟩)]] w fun y w' =>
      y = .returned (.tuple #[hV g, .int .i64 0]) ∧ ∃ T', AM w0 w' T' ∧ TEv w w' T T' ∧ T'.F = T.F ++ [(g, n)] ∧ T'.K = T.K ∧ T'.n = T.n ∧ T'.free.count true + 1 = T.free.count true := by
  obtain ⟨q1, q2⟩ := free_idx hfr
  have hnw : ∀ e, e ∈ T.d.A.L → e.slot ≠ T.free.idxOf true := fun e he => idx_ne' ((h.bw.ars.ar T.i T.d h.hd).th e he).2 hfr
  have hlt : T.i < T.D.length := (List.getElem?_eq_some_iff.1 h.hd).1
  have hgn : ∀ z, z ∈ T.F → z.1 ≠ (((T.free.idxOf true : Nat) : Int), T.gens.getD (T.free.idxOf true) 0) := fun z hz hh => by
    obtain ⟨e, e1, e2, _⟩ := h.ent z hz
    rw [hh] at e2
    exact hnw e e1 (by have : (e.slot : Int) = ((T.free.idxOf true : Nat) : Int) := e2; omega)
  refine ⟨(((T.free.idxOf true : Nat) : Int), T.gens.getD (T.free.idxOf true) 0), hgn, ?_⟩
  obtain ⟨n1, n3, n4, n5, n6, n7⟩ := h.bw.ars.neq h.hd
  have hpR := h.bw.ars.pR h.hd
  have hA := h.bw.ars.gR h.hd
  rw [h.ta, h.tc] at hA
  have hp := h.bw.ars.pool.1
  have hl : ∀ q, q ∈ [T.P.1, T.P.2.1, T.P.2.2, T.d.A.m] → q < w.heap.size := by
    intro q hq
    simp only [List.mem_cons, List.not_mem_nil, or_false] at hq
    rcases hq with rfl | rfl | rfl | rfl
    · exact heap_lt hp.2.2.2.2.2.1
    · exact heap_lt hp.2.2.2.2.2.2.1
    · exact heap_lt hp.2.2.2.2.2.2.2
    · exact heap_lt hA.2.2.1
  refine (AAnode.gAlloc_some T.d.A T.P.1 T.P.2.1 T.P.2.2 [T.P.1, T.P.2.1, T.P.2.2, T.d.A.m] T.gens T.free n.pre (n.val.getD s0) n.val.isSome (some ⟨n.nb, 0, none⟩) w hA hp hfr n1 n3 n5 n6 n7 (by simp) hl hnw).mono ?_
  rintro y w' ⟨hy, hu, hp', b, hb, hA'⟩
  refine ⟨hy, ?_⟩
  obtain ⟨a1, a2⟩ := h.bw.ars.alloc h.bw.ro h.hd hfr hu hp' hb (xs := nxs n) (by rw [h.ta, h.tc]; exact hA')
  refine ⟨{ T with ρ := mark T.ρ b (10 + 3 * T.i), free := T.free.set (T.free.idxOf true) false, D := T.D.set T.i { T.d with A := { T.d.A with L := T.d.A.L ++ [⟨T.free.idxOf true, T.gens.getD (T.free.idxOf true) 0, b, nxs n, T.d.A.c⟩], c := T.d.A.c + 1 } }, d := { T.d with A := { T.d.A with L := T.d.A.L ++ [⟨T.free.idxOf true, T.gens.getD (T.free.idxOf true) 0, b, nxs n, T.d.A.c⟩], c := T.d.A.c + 1 } }, F := T.F ++ [((((T.free.idxOf true : Nat) : Int), T.gens.getD (T.free.idxOf true) 0), n)] }, ⟨⟨h.bw.ro.step a2 (by simp; omega), a1⟩, by simp [hlt], h.ta, h.tc, ?_, a2.heap h.blk (by rw [h.rol]; simp; omega), ?_, ?_, ?_, h.kw.ru a2 (by simp; omega), ?_, ?_, ?_⟩, ⟨a2.mono (by simp), rfl, rfl, rfl, rfl, rfl, rfl, fun _ h => h, by simp, fun j hj => ?_, by simp⟩, rfl, rfl, rfl, ?_⟩
  · show mark T.ρ b (10 + 3 * T.i) T.t = 4
    have := heap_lt h.blk
    rw [mark_other (by omega)]; exact h.rol
  · intro z hz
    rcases List.mem_append.1 hz with hz | hz
    · obtain ⟨e, e1, e2⟩ := h.ent z hz
      exact ⟨e, List.mem_append_left _ e1, e2⟩
    · simp at hz
      subst hz
      exact ⟨⟨T.free.idxOf true, T.gens.getD (T.free.idxOf true) 0, b, nxs n, T.d.A.c⟩, by simp, rfl, rfl, rfl⟩
  · intro z hz
    rcases List.mem_append.1 hz with hz | hz
    · exact h.kid z hz
    · simp at hz; subst hz; exact hk
  · show (List.map (fun z : Hd × AN => z.1) (T.F ++ [_])).Nodup
    rw [List.map_append, List.nodup_append]
    refine ⟨h.ndf, by simp, fun a ha b hb hh => ?_⟩
    obtain ⟨z, hz, rfl⟩ := List.mem_map.1 ha
    simp at hb
    exact hgn z hz (hh.trans hb)
  · simp [h.len]
  · intro j d' y y' hj hd' hy hy'
    have hd'' := hd'
    rcases get_set hd'' with ⟨hh, _⟩ | ⟨_, hd'⟩
    · exact absurd hh.symm hj
    · rcases List.mem_append.1 hy' with hy' | hy'
      · exact h.sep j d' y y' hj hd' hy hy'
      · simp at hy'
        subst hy'
        exact idx_ne' ((h.bw.ars.ar j d' hd').th y hy).2 hfr
  · have := sum_set (d' := { T.d with A := { T.d.A with L := T.d.A.L ++ [⟨T.free.idxOf true, T.gens.getD (T.free.idxOf true) 0, b, nxs n, T.d.A.c⟩], c := T.d.A.c + 1 } }) h.hd
    have hc := h.cnt
    have h2 := count_set_false T.free (T.free.idxOf true) q1 q2
    simp only [List.length_append, List.length_cons, List.length_nil] at this
    simp only [List.length_set]
    omega
  · exact List.getElem?_set_ne (fun hh => hj hh.symm)
  · have h2 := count_set_false T.free (T.free.idxOf true) q1 q2
    show (T.free.set _ false).count true + 1 = _
    omega
theorem count_set_true (free : List Bool) (i : Nat) (hi : free[i]? = some false) : (free.set i true).count true = free.count true + 1 := by
  obtain ⟨hlt, he⟩ := List.getElem?_eq_some_iff.1 hi
  have := List.count_set (a := true) (b := true) (l := free) hlt
  rw [this, he]
  simp
/-- A node is released. -/
theorem AM.release (h : AM w0 w T) (hx : x ∈ T.F) :
    Calls Tryz.prog 55 #[.pointer (some ⟨T.d.A.a, 0, none⟩), hV x.1] w fun y w' => y = .returned (.bool true) ∧ ∃ T', AM w0 w' T' ∧ TEv w w' T T' ∧ T'.F = adel T.F x.1 ∧ T'.K = T.K ∧ T'.n = T.n ∧ T'.free.count true = T.free.count true + 1 := by
  obtain ⟨e, e1, e2, e3, e4⟩ := h.ent x hx
  obtain ⟨n1, n3, n4, n5, n6, n7⟩ := h.bw.ars.neq h.hd
  have hA := h.bw.ars.gR h.hd
  rw [h.ta, h.tc] at hA
  have hp := h.bw.ars.pool.1
  have hfr := ((h.bw.ars.ar T.i T.d h.hd).th e e1).2
  have hlt : T.i < T.D.length := (List.getElem?_eq_some_iff.1 h.hd).1
  refine (AAnode.gRelease_some T.d.A T.P.1 T.P.2.1 T.P.2.2 [T.P.1, T.P.2.1, T.P.2.2, T.d.A.m] T.gens T.free x.1.1 x.1.2 e w hA hp e1 e2.symm e3 hfr n1 n3 n4 n5 n6 n7 (by simp)).mono ?_
  rintro y w' ⟨hy, hu, hp', hA'⟩
  refine ⟨hy, ?_⟩
  obtain ⟨a1, a2⟩ := h.bw.ars.release h.bw.ro h.hd e1 (fun j d' y hj hd' hy => h.sep j d' y e hj hd' hy e1) hu hp' (by rw [h.ta, h.tc]; exact hA')
  have hll : (T.d.A.L.filter fun y => y.slot ≠ e.slot).length + 1 = T.d.A.L.length := by
    have h1 : ∀ (L : List AEnt), (L.map AEnt.slot).Nodup → e ∈ L → (L.filter fun y => y.slot ≠ e.slot).length + 1 = L.length := by
      intro L
      induction L with
      | nil => simp
      | cons a L ih =>
        intro hn hm
        rw [List.map_cons, List.nodup_cons] at hn
        rcases List.mem_cons.1 hm with rfl | hm
        · rw [List.filter_cons_of_neg (by simp), filter_all (fun y hy => by
            have : y.slot ≠ e.slot := fun hh => hn.1 (by rw [← hh]; exact List.mem_map_of_mem hy)
            simpa using this)]
          rfl
        · have hne : a.slot ≠ e.slot := fun hh => hn.1 (by rw [hh]; exact List.mem_map_of_mem hm)
          rw [List.filter_cons_of_pos (by simpa using hne)]
          simp only [List.length_cons]
          rw [ih hn.2 hm]
    exact h1 _ h.slots e1
  have hfl : (adel T.F x.1).length + 1 = T.F.length := by
    have h1 : ∀ (L : AF), (L.map (·.1)).Nodup → x ∈ L → (adel L x.1).length + 1 = L.length := by
      intro L
      induction L with
      | nil => simp
      | cons a L ih =>
        intro hn hm
        rw [List.map_cons, List.nodup_cons] at hn
        unfold adel
        rcases List.mem_cons.1 hm with rfl | hm
        · rw [List.filter_cons_of_neg (by simp), filter_all (fun y hy => by
            have : y.1 ≠ x.1 := fun hh => hn.1 (by rw [← hh]; exact List.mem_map_of_mem hy)
            simpa using this)]
          rfl
        · have hne : a.1 ≠ x.1 := fun hh => hn.1 (by rw [hh]; exact List.mem_map_of_mem hm)
          rw [List.filter_cons_of_pos (by simpa using hne)]
          simp only [List.length_cons]
          have := ih hn.2 hm
          unfold adel at this
          rw [this]
    exact h1 _ h.ndf hx
  refine ⟨{ T with gens := T.gens.set e.slot (IntKind.u64.wrap (T.gens.getD e.slot 0 + 1)), free := T.free.set e.slot true, D := T.D.set T.i { T.d with A := { T.d.A with L := T.d.A.L.filter fun y => y.slot ≠ e.slot } }, d := { T.d with A := { T.d.A with L := T.d.A.L.filter fun y => y.slot ≠ e.slot } }, F := adel T.F x.1 }, ⟨⟨h.bw.ro.step a2 (by simp; omega), a1⟩, by simp [hlt], h.ta, h.tc, h.rol, a2.heap h.blk (by rw [h.rol]; simp; omega), ?_, ?_, ?_, h.kw.ru a2 (by simp; omega), ?_, ?_, ?_⟩, ⟨a2.mono (by simp), rfl, rfl, rfl, rfl, rfl, rfl, fun _ h => h, by simp, fun j hj => ?_, by simp⟩, rfl, rfl, rfl, count_set_true _ _ hfr⟩
  · intro z hz
    obtain ⟨z1, z2⟩ := mem_adel.1 hz
    obtain ⟨y, y1, y2, y3, y4⟩ := h.ent z z2
    refine ⟨y, List.mem_filter.2 ⟨y1, ?_⟩, y2, y3, y4⟩
    have : y.slot ≠ e.slot := fun hh => by
      have := slot_uniq h.slots y1 e1 hh
      subst this
      exact z1 (Prod.ext (by rw [← y2, e2]) (by rw [← y3, e3]))
    simpa using this
  · intro z hz
    exact h.kid z (mem_adel.1 hz).2
  · exact h.ndf.sublist (List.Sublist.map _ List.filter_sublist)
  · show (T.d.A.L.filter fun y => y.slot ≠ e.slot).length = (adel T.F x.1).length
    have := h.len
    omega
  · intro j d' y y' hj hd' hy hy'
    rcases get_set hd' with ⟨hh, _⟩ | ⟨_, hd'⟩
    · exact absurd hh.symm hj
    · exact h.sep j d' y y' hj hd' hy (List.mem_filter.1 hy').1
  · have := sum_set (d' := { T.d with A := { T.d.A with L := T.d.A.L.filter fun y => y.slot ≠ e.slot } }) h.hd
    have hc := h.cnt
    have h2 := count_set_true T.free e.slot hfr
    simp only [List.length_set]
    simp only at this
    omega
  · exact List.getElem?_set_ne (fun hh => hj hh.symm)
end
end Go.Proofs.YtmhlokomlngdmaaGreat
