/- A trie alone in its pool, for the laws: what it has, and how many slots it takes. A trie alone in its pool, and blocks that it leaves as they are. -/
import Derived.Test.YtmhlokomlngdmaaGreatArtCl
import Derived.Test.YtmhlokomlngdmaaGreatArtNe
namespace Go.Proofs.YtmhlokomlngdmaaGreat
open Go.RowKit
/-- Without doubles. -/
def dd : List Byt → List Byt
  | [] => []
  | x :: l => if x ∈ dd l then dd l else x :: dd l
theorem mem_dd {x : Byt} : ∀ {l : List Byt}, x ∈ dd l ↔ x ∈ l
  | [] => Iff.rfl
  | y :: l => by
    unfold dd
    have ih := mem_dd (x := x) (l := l)
    split
    · rename_i hy
      rw [ih, List.mem_cons]
      refine ⟨.inr, fun h => h.elim (fun e => ?_) id⟩
      rw [e]; exact mem_dd.1 hy
    · rw [List.mem_cons, List.mem_cons, ih]
theorem nodup_dd : ∀ l : List Byt, (dd l).Nodup
  | [] => List.nodup_nil
  | y :: l => by
    unfold dd
    have ih := nodup_dd l
    split
    · exact ih
    · rename_i hy
      exact List.nodup_cons.2 ⟨hy, ih⟩
/-- The paths that a trie with these keys has nodes at. -/
def keyPaths (C : Cont) : List Byt := [] :: (C.map fun kv => bl kv.1) ++ C.flatMap fun a => (C.filter fun b => decide (a.1 ≠ b.1)).map fun b => cpre (bl a.1) (bl b.1)
/-- How many nodes a trie with these keys has. -/
def nodesN (C : Cont) : Nat := (dd (keyPaths C)).length
theorem mem_keyPaths {C : Cont} {p : Byt} : p ∈ keyPaths C ↔ p = [] ∨ (∃ kv, kv ∈ C ∧ bl kv.1 = p) ∨ ∃ a b, a ∈ C ∧ b ∈ C ∧ a.1 ≠ b.1 ∧ p = cpre (bl a.1) (bl b.1) := by
  unfold keyPaths
  rw [List.mem_append, List.mem_cons, List.mem_map, List.mem_flatMap, or_assoc]
  refine or_congr Iff.rfl (or_congr Iff.rfl ⟨?_, ?_⟩)
  · rintro ⟨a, ha, hp⟩
    obtain ⟨b, hb, rfl⟩ := List.mem_map.1 hp
    obtain ⟨hb1, hb2⟩ := List.mem_filter.1 hb
    exact ⟨a, b, ha, hb1, of_decide_eq_true hb2, rfl⟩
  · rintro ⟨a, b, ha, hb, hne, rfl⟩
    exact ⟨a, ha, List.mem_map.2 ⟨b, List.mem_filter.2 ⟨hb, decide_eq_true hne⟩, rfl⟩⟩
theorem nodes_eq {F : AF} {r : Hd} {C : Cont} (h : AOK F r) (hc : ACt F C) (hn : ANrm F r) : F.length = nodesN C :=
  nodes_len h hc hn (nodup_dd _) fun _ => mem_dd.trans mem_keyPaths
theorem cput_le (C : Cont) (hs : CSort C) (k v : Str) : (cput C k v).length ≤ C.length + 1 := by
  rw [cput_len hs]
  split <;> omega
theorem cdel_le (C : Cont) (hs : CSort C) (k : Str) : (cdel C k).length ≤ C.length := by
  rw [(cdel_len hs k).1]
  split <;> omega
theorem cdel_none {C : Cont} {k : Str} (h : cget C k = none) (hs : CSort C) : cdel C k = C := by
  have h1 := (cdel_len hs k).1
  rw [h] at h1
  simp only [Option.isSome_none, Bool.false_eq_true, if_false] at h1
  unfold cdel at h1 ⊢
  exact List.filter_eq_self.2 (List.length_filter_eq_length_iff.1 h1)
/-- A trie alone in its pool of c0 slots. -/
def ATx (w0 w : World) (p t c0 : Nat) (C : Cont) : Prop := ∃ T, AT w0 w T C ∧ T.t = t ∧ T.P.1 = p ∧ T.i = 0 ∧ T.D.length = 1 ∧ T.free.length = c0
section
variable {w0 w w' : World} {p t c0 : Nat} {C : Cont} {T T' : TS}
theorem AT.alone (h : AT w0 w T C) (hi : T.i = 0) (hD : T.D.length = 1) : T.free.count true + nodesN C = T.free.length ∧ T.F.length = nodesN C := by
  have h1 := h.am.cnt
  have h2 := h.am.hd
  have h3 := h.am.len
  have h4 := nodes_eq h.ok h.ct h.nm
  rw [hi] at h2
  match hDD : T.D, hD with
  | [d], _ =>
    rw [hDD] at h1 h2
    simp only [List.getElem?_cons_zero] at h2
    injection h2 with h2
    subst h2
    simp only [List.map_cons, List.map_nil, List.sum_cons, List.sum_nil] at h1
    exact ⟨by omega, h4⟩
theorem ATx.srt (h : ATx w0 w p t c0 C) : CSort C := by obtain ⟨T, h, _⟩ := h; exact h.ct.srt
theorem ATx.bel (h : ATx w0 w p t c0 C) : Below w0.heap.size w0 w := by obtain ⟨T, h, _⟩ := h; exact h.am.bw.ro.bel
theorem ATx.below (h : ATx w0 w p t c0 C) (hb : Below w.heap.size w w') : ATx w0 w' p t c0 C := by
  obtain ⟨T, h, h2⟩ := h
  exact ⟨T, h.below hb, h2⟩
theorem ATx.len_le (h : ATx w0 w p t c0 C) : C.length ≤ 4096 ∧ nodesN C ≤ c0 := by
  obtain ⟨T, h, _, _, h1, h2, h3⟩ := h
  have := (h.alone h1 h2).1
  exact ⟨h.len_le.2, by omega⟩
theorem ATx.get (h : ATx w0 w p t c0 C) (key : Str) (hk : key.size ≤ big) :
    Calls Tryz.prog 26 #[.pointer (some ⟨t, 0, none⟩), .string key, .nilFunc] w fun e w' => e = .returned (.tuple #[.string ((cget C key).getD s0), .bool (cget C key).isSome, .bool false]) ∧ Below w.heap.size w w' := by
  obtain ⟨T, h, rfl, _⟩ := h
  exact h.get key hk
theorem ATx.next (h : ATx w0 w p t c0 C) (key : Str) (after : Bool) :
    Calls Tryz.prog 27 #[.pointer (some ⟨t, 0, none⟩), .string key, .bool after, .nilFunc] w fun e w' => e = .returned (.tuple #[.string (fK (cnext C key after)), .string (fX (cnext C key after)), .bool (cnext C key after).isSome, .bool false]) ∧ Below w.heap.size w w' := by
  obtain ⟨T, h, rfl, _⟩ := h
  exact h.next key after
theorem ATx.length (h : ATx w0 w p t c0 C) : Calls Tryz.prog 20 #[.pointer (some ⟨t, 0, none⟩)] w fun e w' => e = .returned (.int .i64 C.length) ∧ w = w' := by
  obtain ⟨T, h, rfl, _⟩ := h
  exact h.length
theorem ATx.slots (h : ATx w0 w p t c0 C) : Calls Tryz.prog 19 #[.pointer (some ⟨t, 0, none⟩)] w fun e w' => e = .returned (.int .i64 (nodesN C)) ∧ Below w.heap.size w w' := by
  obtain ⟨T, h, rfl, _, h1, h2, _⟩ := h
  rw [← (h.alone h1 h2).2]
  exact h.slots
theorem ATx.check (h : ATx w0 w p t c0 C) : Calls Tryz.prog 22 #[.pointer (some ⟨t, 0, none⟩)] w fun e w' => e = .returned (.bool true) ∧ Below w.heap.size w w' := by
  obtain ⟨T, h, rfl, _⟩ := h
  exact h.check
theorem ATx.all (h : ATx w0 w p t c0 C) : Calls Tryz.prog 14 #[.pointer (some ⟨t, 0, none⟩)] w (AllEnd w C) := by
  obtain ⟨T, h, rfl, _⟩ := h
  exact h.all
theorem ATx.live (h : ATx w0 w p t c0 C) : Calls Tryz.prog 21 #[.pointer (some ⟨p, 0, none⟩)] w fun e w' => e = .returned (.int .i64 (nodesN C)) ∧ Below w.heap.size w w' := by
  obtain ⟨T, h, rfl, rfl, h1, h2, h3⟩ := h
  have ha := (h.alone h1 h2).1
  obtain ⟨hp, _⟩ := h.am.bw.ars.pool
  refine (pLive_any T.P.1 T.P.2.1 T.P.2.2 T.gens T.free w hp).mono ?_
  rintro e w' ⟨rfl, hb⟩
  refine ⟨?_, hb⟩
  rw [show ((T.free.length : Int) - (T.free.count true : Nat)) = ((nodesN C : Nat) : Int) by omega]
theorem ATx.key_le (h : ATx w0 w p t c0 C) {x : Str × Str} (hx : x ∈ C) : x.1.size ≤ 600 := by
  obtain ⟨T, h, _⟩ := h
  obtain ⟨y, hy, hp, _⟩ := (h.ct.mem x.1 x.2).1 hx
  have := h.lim y hy
  rw [hp, bl_size] at this
  exact this
/-- A Put: there is room or not. -/
def putV (C : Cont) (c0 : Nat) (key v : Str) : Value := if nodesN (cput C key v) ≤ c0 then .tuple #[.string ((cget C key).getD s0), .bool (cget C key).isSome, .int .i64 0] else .tuple #[.string ⟨#[]⟩, .bool false, .int .i64 5]
def putC (C : Cont) (c0 : Nat) (key v : Str) : Cont := if nodesN (cput C key v) ≤ c0 then cput C key v else C
theorem ATx.put (h : ATx w0 w p t c0 C) (key v : Str) (hk : key.size ≤ 600) :
    Calls Tryz.prog 18 #[.pointer (some ⟨t, 0, none⟩), .string key, .string v] w fun e w' => e = .returned (putV C c0 key v) ∧ ATx w0 w' p t c0 (putC C c0 key v) := by
  obtain ⟨T, h, rfl, rfl, h1, h2, h3⟩ := h
  have ha := h.alone h1 h2
  refine (h.put key v hk (Nat.le_trans h.len_le.2 (by omega))).mono ?_
  rintro e w' ⟨F', m, hF, ⟨hm, rfl, T', hT, hev, _⟩ | ⟨hm, rfl, hb⟩⟩
  · have hle : nodesN (cput C key v) ≤ c0 := by
      have := nodes_eq hF.ok hF.ct hF.nm
      have := hF.len
      omega
    unfold putV putC
    rw [if_pos hle, if_pos hle]
    exact ⟨rfl, T', hT, hev.t, by rw [hev.P], hev.i.trans h1, hev.dl.trans h2, hev.fl.trans h3⟩
  · have hle : ¬ nodesN (cput C key v) ≤ c0 := by
      have := nodes_eq hF.ok hF.ct hF.nm
      have := hF.len
      omega
    unfold putV putC
    rw [if_neg hle, if_neg hle]
    exact ⟨rfl, T, h.below hb, rfl, rfl, h1, h2, h3⟩
theorem ATx.delete (h : ATx w0 w p t c0 C) (key : Str) (hk : key.size ≤ 600) :
    Calls Tryz.prog 24 #[.pointer (some ⟨t, 0, none⟩), .string key] w fun e w' => e = .returned (.tuple #[.string ((cget C key).getD s0), .bool (cget C key).isSome]) ∧ ATx w0 w' p t c0 (cdel C key) := by
  obtain ⟨T, h, rfl, rfl, h1, h2, h3⟩ := h
  refine (h.delete key hk).mono ?_
  rintro e w' (⟨hg, rfl, hb⟩ | ⟨v, hg, rfl, T', hT, hev⟩)
  · rw [hg, cdel_none hg h.ct.srt]
    exact ⟨rfl, T, h.below hb, rfl, rfl, h1, h2, h3⟩
  · rw [hg]
    exact ⟨rfl, T', hT, hev.t, by rw [hev.P], hev.i.trans h1, hev.dl.trans h2, hev.fl.trans h3⟩
/-- A new trie of a new pool. -/
theorem ATx.new {g f n : Nat} (hb : Below w0.heap.size w0 w) (hp : PoolIs w p g f (List.replicate n 1) (List.replicate n true)) (hl : w0.heap.size ≤ p ∧ w0.heap.size ≤ g ∧ w0.heap.size ≤ f) (hn : 1 ≤ n) :
    Calls Tryz.prog 9 #[.pointer (some ⟨p, 0, none⟩)] w fun e w' => ∃ t, e = .returned (.tuple #[.pointer (some ⟨t, 0, none⟩), .int .i64 0]) ∧ ATx w0 w' p t n [] := by
  have hpg := hp.2.2.1
  have hpf := hp.2.2.2.1
  have hgf := hp.2.2.2.2.1
  have hlp := heap_lt hp.2.2.2.2.2.1
  have hlg := heap_lt hp.2.2.2.2.2.2.1
  have hlf := heap_lt hp.2.2.2.2.2.2.2
  have hro : Ro w0 w (mark (mark (mark (fun _ => 0) p 1) g 2) f 3) := by
    refine ⟨hb, fun k hk => ?_, fun k hk => ?_⟩ <;> rw [mark_other (by omega), mark_other (by omega), mark_other (by omega)]
  have hB : BW w0 w (mark (mark (mark (fun _ => 0) p 1) g 2) f 3) (p, g, f) (List.replicate n 1) (List.replicate n true) [] :=
    ⟨hro, ⟨⟨hp, by rw [mark_other hpf, mark_other hpg, mark_self], by rw [mark_other hgf, mark_self], mark_self⟩, fun i d hd => by simp at hd⟩⟩
  have hin : true ∈ List.replicate n true := List.mem_replicate.2 ⟨by omega, rfl⟩
  refine (new_any hB (by simp)).mono ?_
  rintro e w' (⟨_, T, rfl, hT, h1, h2, h3, h4, h5, _, h6, _⟩ | ⟨hno, _⟩)
  · exact ⟨T.t, rfl, T, hT, rfl, by rw [h1], h2, by rw [h6]; rfl, by rw [h5]; simp⟩
  · exact absurd hin hno
end
end Go.Proofs.YtmhlokomlngdmaaGreat
namespace Go.Proofs.YtmhlokomlngdmaaGreat
open Go.RowKit
/-- A trie alone in its pool of c0 slots; the blocks of Z are none of its. -/
def ATz (w0 w : World) (p t c0 : Nat) (C : Cont) (Z : Nat → Prop) : Prop := ∃ T, (AT w0 w T C ∧ T.t = t ∧ T.P.1 = p ∧ T.i = 0 ∧ T.D.length = 1 ∧ T.free.length = c0) ∧ ∀ q, Z q → q < w.heap.size ∧ T.ρ q = 0
/-- These blocks stand as they stood. -/
def KeepZ (Z : Nat → Prop) (w w' : World) : Prop := ∀ q, Z q → w'.heap[q]? = w.heap[q]?
theorem KeepZ.refl (Z : Nat → Prop) (w : World) : KeepZ Z w w := fun _ _ => rfl
theorem KeepZ.trans {Z : Nat → Prop} {w w1 w2 : World} (h : KeepZ Z w w1) (k : KeepZ Z w1 w2) : KeepZ Z w w2 := fun q hq => (k q hq).trans (h q hq)
theorem KeepZ.cell {Z : Nat → Prop} {w w' : World} (h : KeepZ Z w w') {b i : Nat} {v : Value} (hb : Z b) (hc : w.cell? ⟨b, i, none⟩ = some v) : w'.cell? ⟨b, i, none⟩ = some v := by
  rw [World.cell?_of_block (a := ⟨b, i, none⟩) (h b hb)]
  exact hc
section
variable {w0 w w' : World} {p t c0 : Nat} {C : Cont} {Z : Nat → Prop}
theorem ATz.x (h : ATz w0 w p t c0 C Z) : ATx w0 w p t c0 C := by
  obtain ⟨T, h, _⟩ := h
  exact ⟨T, h⟩
theorem ATz.keepB (h : ATz w0 w p t c0 C Z) (hb : Below w.heap.size w w') : KeepZ Z w w' := by
  obtain ⟨T, _, h⟩ := h
  exact fun q hq => hb.block q (h q hq).1
theorem ATz.below (h : ATz w0 w p t c0 C Z) (hb : Below w.heap.size w w') : ATz w0 w' p t c0 C Z := by
  obtain ⟨T, ⟨h, h2⟩, h3⟩ := h
  exact ⟨T, ⟨h.below hb, h2⟩, fun q hq => ⟨Nat.lt_of_lt_of_le (h3 q hq).1 hb.size, (h3 q hq).2⟩⟩
theorem ATx.zone (h : ATx w0 w p t c0 C) (hb : Below w.heap.size w w') : ATz w0 w' p t c0 C (fun q => w.heap.size ≤ q ∧ q < w'.heap.size) := by
  obtain ⟨T, h, h2⟩ := h
  exact ⟨T, ⟨h.below hb, h2⟩, fun q hq => ⟨hq.2, h.am.bw.ro.far q hq.1⟩⟩
theorem ATz.more (h : ATz w0 w p t c0 C Z) (hb : Below w.heap.size w w') : ATz w0 w' p t c0 C (fun q => Z q ∨ w.heap.size ≤ q ∧ q < w'.heap.size) := by
  obtain ⟨T, ⟨h, h2⟩, h3⟩ := h
  refine ⟨T, ⟨h.below hb, h2⟩, fun q hq => ?_⟩
  rcases hq with hq | hq
  · exact ⟨Nat.lt_of_lt_of_le (h3 q hq).1 hb.size, (h3 q hq).2⟩
  · exact ⟨hq.2, h.am.bw.ro.far q hq.1⟩
theorem TEv.keepZ {T T' : TS} (hev : TEv w w' T T') (h : ∀ q, Z q → q < w.heap.size ∧ T.ρ q = 0) : KeepZ Z w w' ∧ ∀ q, Z q → q < w'.heap.size ∧ T'.ρ q = 0 := by
  refine ⟨fun q hq => hev.ru.block q (h q hq).1 (by rw [(h q hq).2]; simp; omega), fun q hq => ⟨Nat.lt_of_lt_of_le (h q hq).1 hev.ru.size, (hev.ru.role q (h q hq).1).trans (h q hq).2⟩⟩
theorem ATz.put (h : ATz w0 w p t c0 C Z) (key v : Str) (hk : key.size ≤ 600) :
    Calls Tryz.prog 18 #[.pointer (some ⟨t, 0, none⟩), .string key, .string v] w fun e w' => e = .returned (putV C c0 key v) ∧ ATz w0 w' p t c0 (putC C c0 key v) Z ∧ KeepZ Z w w' := by
  obtain ⟨T, ⟨h, rfl, rfl, h1, h2, h3⟩, hz⟩ := h
  have ha := h.alone h1 h2
  refine (h.put key v hk (Nat.le_trans h.len_le.2 (by omega))).mono ?_
  rintro e w' ⟨F', m, hF, ⟨hm, rfl, T', hT, hev, _⟩ | ⟨hm, rfl, hb⟩⟩
  · have hle : nodesN (cput C key v) ≤ c0 := by
      have := nodes_eq hF.ok hF.ct hF.nm
      have := hF.len
      omega
    unfold putV putC
    rw [if_pos hle, if_pos hle]
    obtain ⟨k1, k2⟩ := hev.keepZ hz
    exact ⟨rfl, ⟨T', ⟨hT, hev.t, by rw [hev.P], hev.i.trans h1, hev.dl.trans h2, hev.fl.trans h3⟩, k2⟩, k1⟩
  · have hle : ¬ nodesN (cput C key v) ≤ c0 := by
      have := nodes_eq hF.ok hF.ct hF.nm
      have := hF.len
      omega
    unfold putV putC
    rw [if_neg hle, if_neg hle]
    obtain ⟨k1, k2⟩ := (TEv.below h.am hb).keepZ hz
    exact ⟨rfl, ⟨T, ⟨h.below hb, rfl, rfl, h1, h2, h3⟩, k2⟩, k1⟩
theorem ATz.delete (h : ATz w0 w p t c0 C Z) (key : Str) (hk : key.size ≤ 600) :
    Calls Tryz.prog 24 #[.pointer (some ⟨t, 0, none⟩), .string key] w fun e w' => e = .returned (.tuple #[.string ((cget C key).getD s0), .bool (cget C key).isSome]) ∧ ATz w0 w' p t c0 (cdel C key) Z ∧ KeepZ Z w w' := by
  obtain ⟨T, ⟨h, rfl, rfl, h1, h2, h3⟩, hz⟩ := h
  refine (h.delete key hk).mono ?_
  rintro e w' (⟨hg, rfl, hb⟩ | ⟨v, hg, rfl, T', hT, hev⟩)
  · rw [hg, cdel_none hg h.ct.srt]
    obtain ⟨k1, k2⟩ := (TEv.below h.am hb).keepZ hz
    exact ⟨rfl, ⟨T, ⟨h.below hb, rfl, rfl, h1, h2, h3⟩, k2⟩, k1⟩
  · rw [hg]
    obtain ⟨k1, k2⟩ := hev.keepZ hz
    exact ⟨rfl, ⟨T', ⟨hT, hev.t, by rw [hev.P], hev.i.trans h1, hev.dl.trans h2, hev.fl.trans h3⟩, k2⟩, k1⟩
end
/-- A slice of pairs in blocks of Z. -/
theorem pairs_keep {Z : Nat → Prop} {base : Nat} {w : World} {a : Option Addr} {c : Nat} {C : Cont} (h : Row base 57 2 pcel w (.slice a C.length c) C) (hZ : ∀ q, base ≤ q → q < w.heap.size → Z q) (W : World) (hW : KeepZ Z w W) {i : Nat} {x : Str × Str} (hx : C[i]? = some x) :
    ∃ b, a = some ⟨b, 0, none⟩ ∧ Z b ∧ C.length ≤ c ∧ c ≤ 9223372036854775807 ∧ W.cell? ⟨b, i * 2, none⟩ = some (.string x.1) ∧ W.cell? ⟨b, i * 2 + 1, none⟩ = some (.string x.2) := by
  obtain ⟨b, cap, ev, _, h2, h3, h4, h5, _, h6⟩ := h.at hx
  injection ev with ev _ ec
  subst ec
  have hz := hZ b h2 h3
  exact ⟨b, ev, hz, h4, by unfold maxLen at h5; omega, hW.cell hz (by simpa using h6 0 _ rfl), hW.cell hz (h6 1 _ rfl)⟩
end Go.Proofs.YtmhlokomlngdmaaGreat
