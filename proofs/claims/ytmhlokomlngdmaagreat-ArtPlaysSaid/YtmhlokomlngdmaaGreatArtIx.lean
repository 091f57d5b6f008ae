/- A node's children in places that an index tells. -/
import Derived.Test.YtmhlokomlngdmaaGreatArtDi
namespace Go.Proofs.YtmhlokomlngdmaaGreat
open Go.RowKit
structure IxC (pl : UInt8 → Nat) (kd : Nat → Hd) (us : List Bool) (L : KL) : Prop where
  ks : KSort L
  le : ∀ b, pl b ≤ 48
  ul : us.length = 48
  get : ∀ b, kget L b = if pl b = 0 then none else some (kd (pl b - 1))
  inj : ∀ b c, pl b = pl c → pl b ≠ 0 → b = c
  use : ∀ i, us[i]? = some true ↔ ∃ b, pl b = i + 1
  cnt : us.count true = L.length
def upf {α β : Type} [DecidableEq α] (f : α → β) (a : α) (v : β) : α → β := fun c => if c = a then v else f c
theorem upf_self {α β : Type} [DecidableEq α] (f : α → β) (a : α) (v : β) : upf f a v a = v := if_pos rfl
theorem upf_ne {α β : Type} [DecidableEq α] (f : α → β) {a c : α} (v : β) (h : c ≠ a) : upf f a v c = f c := if_neg h
section
variable {pl : UInt8 → Nat} {kd : Nat → Hd} {us : List Bool} {L : KL}
theorem IxC.old (h : IxC pl kd us L) {b : UInt8} {p : Nat} (hp : pl b = p + 1) (x : Hd) : IxC pl (upf kd p x) us (kput L b x) := by
  refine ⟨ks_put h.ks b x, h.le, h.ul, fun c => ?_, h.inj, h.use, ?_⟩
  · rw [kget_kput h.ks, h.get c]
    by_cases e : b = c
    · subst e
      rw [if_pos rfl, if_neg (by omega), hp, Nat.add_sub_cancel, upf_self]
    · rw [if_neg e]
      by_cases e2 : pl c = 0
      · rw [if_pos e2, if_pos e2]
      · rw [if_neg e2, if_neg e2, upf_ne]
        intro e3
        exact e (h.inj b c (by omega) (by omega))
  · have hg := h.get b
    rw [if_neg (by omega)] at hg
    rw [h.cnt, kput_len h.ks, hg]
    rfl
theorem IxC.new (h : IxC pl kd us L) {b : UInt8} {m : Nat} (hb : pl b = 0) (hm : us[m]? = some false) (x : Hd) : IxC (upf pl b (m + 1)) (upf kd m x) (us.set m true) (kput L b x) := by
  have hml : m < us.length := (List.getElem?_eq_some_iff.1 hm).1
  have hno : ∀ c, pl c ≠ m + 1 := fun c e => by
    have := (h.use m).2 ⟨c, e⟩
    rw [hm] at this
    cases this
  have hul := h.ul
  refine ⟨ks_put h.ks b x, fun c => ?_, by rw [List.length_set]; exact h.ul, fun c => ?_, fun c d => ?_, fun i => ?_, ?_⟩
  · unfold upf
    split
    · omega
    · exact h.le c
  · rw [kget_kput h.ks]
    by_cases e : b = c
    · subst e
      rw [if_pos rfl, upf_self, if_neg (by omega), Nat.add_sub_cancel, upf_self]
    · rw [if_neg e, upf_ne _ _ (Ne.symm e), h.get c]
      by_cases e2 : pl c = 0
      · rw [if_pos e2, if_pos e2]
      · rw [if_neg e2, if_neg e2, upf_ne]
        have := hno c
        omega
  · intro e e0
    by_cases e1 : c = b <;> by_cases e2 : d = b
    · rw [e1, e2]
    · rw [e1, upf_self, upf_ne _ _ e2] at e
      exact absurd e.symm (hno d)
    · rw [e2, upf_self, upf_ne _ _ e1] at e
      exact absurd e (hno c)
    · rw [upf_ne _ _ e1, upf_ne _ _ e2] at e
      rw [upf_ne _ _ e1] at e0
      exact h.inj c d e e0
  · rw [List.getElem?_set]
    by_cases e : m = i
    · subst e
      rw [if_pos rfl, if_pos hml]
      exact ⟨fun _ => ⟨b, upf_self _ _ _⟩, fun _ => rfl⟩
    · rw [if_neg e, h.use i]
      constructor
      · rintro ⟨c, hc⟩
        refine ⟨c, ?_⟩
        rw [upf_ne]
        · exact hc
        · intro e2; rw [e2, hb] at hc; omega
      · rintro ⟨c, hc⟩
        by_cases e2 : c = b
        · rw [e2, upf_self] at hc; omega
        · rw [upf_ne _ _ e2] at hc; exact ⟨c, hc⟩
  · rw [kput_len h.ks, h.get b, if_pos hb, ← h.cnt, List.count_set hml]
    rw [List.getElem?_eq_getElem hml] at hm
    injection hm with hm
    rw [hm]
    simp
theorem IxC.drop (h : IxC pl kd us L) {b : UInt8} {p : Nat} (hp : pl b = p + 1) (x : Hd) : IxC (upf pl b 0) (upf kd p x) (us.set p false) (kdel L b) := by
  have hut := (h.use p).2 ⟨b, hp⟩
  have hpl : p < us.length := (List.getElem?_eq_some_iff.1 hut).1
  have hg := h.get b
  rw [if_neg (by omega)] at hg
  refine ⟨ks_del h.ks b, fun c => ?_, by rw [List.length_set]; exact h.ul, fun c => ?_, fun c d => ?_, fun i => ?_, ?_⟩
  · unfold upf
    split
    · omega
    · exact h.le c
  · rw [kget_kdel h.ks]
    by_cases e : b = c
    · subst e
      rw [if_pos rfl, upf_self, if_pos rfl]
    · rw [if_neg e, upf_ne _ _ (Ne.symm e), h.get c]
      by_cases e2 : pl c = 0
      · rw [if_pos e2, if_pos e2]
      · rw [if_neg e2, if_neg e2, upf_ne]
        intro e3
        exact e (h.inj b c (by omega) (by omega))
  · intro e e0
    by_cases e1 : c = b
    · rw [e1, upf_self] at e0; exact absurd rfl e0
    · by_cases e2 : d = b
      · rw [e2, upf_self] at e
        exact absurd e e0
      · rw [upf_ne _ _ e1, upf_ne _ _ e2] at e
        rw [upf_ne _ _ e1] at e0
        exact h.inj c d e e0
  · rw [List.getElem?_set]
    by_cases e : p = i
    · subst e
      rw [if_pos rfl, if_pos hpl]
      constructor
      · intro e; injection e with e; cases e
      · rintro ⟨c, hc⟩
        by_cases e2 : c = b
        · rw [e2, upf_self] at hc; omega
        · rw [upf_ne _ _ e2] at hc
          exact absurd (h.inj c b (by omega) (by omega)) e2
    · rw [if_neg e, h.use i]
      constructor
      · rintro ⟨c, hc⟩
        refine ⟨c, ?_⟩
        rw [upf_ne]
        · exact hc
        · intro e2; rw [e2, hp] at hc; omega
      · rintro ⟨c, hc⟩
        by_cases e2 : c = b
        · rw [e2, upf_self] at hc; omega
        · rw [upf_ne _ _ e2] at hc; exact ⟨c, hc⟩
  · rw [kdel_len h.ks, hg, ← h.cnt, List.count_set hpl]
    rw [List.getElem?_eq_getElem hpl] at hut
    injection hut with hut
    rw [hut]
    simp
theorem IxC.room (h : IxC pl kd us L) (hL : L.length < 48) : false ∈ us := by
  cases hf : us.contains false with
  | true => simpa using hf
  | false =>
    have hall : ∀ x, x ∈ us → x = true := fun x hx => by
      cases x with
      | true => rfl
      | false => have : us.contains false = true := by simpa using hx
                 rw [this] at hf; cases hf
    have := List.count_eq_length.2 (fun x hx => (hall x hx).symm)
    rw [h.cnt, h.ul] at this
    omega
end
structure IxAt (w : World) (ib : Nat) (pl : UInt8 → Nat) (kd : Nat → Hd) (us : List Bool) (L : KL) : Prop where
  c : IxC pl kd us L
  ex : ∃ cur, w.heap[ib]? = some (.cells cur 164) ∧ (∀ b : UInt8, cur[b.toNat]? = some (.int .u8 (pl b))) ∧ (∀ i, i < 48 → cur[256 + i * 2]? = some (.int .i64 (kd i).1) ∧ cur[256 + i * 2 + 1]? = some (.int .u64 (kd i).2)) ∧ ∀ (i : Nat) x, us[i]? = some x → cur[352 + i]? = some (.bool x)
theorem index_false (b o : Nat) (l : List Bool) (cap : Nat) (w : World) (hl : l.length ≤ 4096) (hb : ∀ (i : Nat) x, l[i]? = some x → w.cell? ⟨b, o + i, none⟩ = some (.bool x)) (hin : false ∈ l) :
    Calls Tryz.prog 77 #[.slice (some ⟨b, o, none⟩) l.length cap, .bool false] w fun e w' => e = .returned (.int .i64 (l.idxOf false)) ∧ w = w' := by
  have hlt : l.idxOf false < l.length := List.idxOf_lt_length_of_mem hin
  have hne : ∀ k, k < l.idxOf false → l[k]? = some true := by
    intro k hk
    have h1 := List.not_of_lt_findIdx (p := fun x => x == false) (xs := l) (i := k) hk
    rw [List.getElem?_eq_getElem (by omega)]
    simpa using h1
  have hit : l[l.idxOf false]? = some false := by
    rw [List.getElem?_eq_getElem hlt]
    simp
  generalize l.idxOf false = m at *
  replace hne := Lib.hid hne
  replace hb := Lib.hid hb
  replace hit := Lib.hid hit
  clear hin
  go_enter Tryz.func77, Tryz.ntmps77
  go_wp2
  go_loop [8] (fun i => ∃ k : Nat, k ≤ m ∧ i = .int .i64 k) (fun i => m + 1 - (intOf i).toNat)
  case atStart => exact ⟨0, Nat.zero_le _, rfl⟩
  case round =>
    obtain ⟨k, hk, rfl⟩ := hrel
    have hkl : k < l.length := by omega
    by_cases hkm : k < m
    · have h1 : w.cell? ⟨b, o + k, none⟩ = some (.bool true) := hb.out k _ (hne.out k hkm)
      go_wp2
      go_round
      case rel => exact ⟨k + 1, by omega, by go_num⟩
      case measure => simp [intOf]; omega
    · obtain rfl : k = m := by omega
      have h1 : w.cell? ⟨b, o + k, none⟩ = some (.bool false) := hb.out k _ hit.out
      go_wp2
      go_ret
      exact ⟨rfl, rfl⟩
section
variable {w : World} {ib : Nat} {pl : UInt8 → Nat} {kd : Nat → Hd} {us : List Bool} {L : KL}
theorem IxAt.below {w' : World} (h : IxAt w ib pl kd us L) (hb : Below w.heap.size w w') : IxAt w' ib pl kd us L := by
  obtain ⟨cur, hc, h1⟩ := h.ex
  exact ⟨h.c, cur, Below.heap' hb hc, h1⟩
theorem IxAt.place (h : IxAt w ib pl kd us L) (b : UInt8) : w.cell? ⟨ib, b.toNat, none⟩ = some (.int .u8 (pl b)) ∧ ib < w.heap.size ∧ ∀ i, w.frozen? ⟨ib, i, none⟩ = false := by
  obtain ⟨cur, hc, h1, _⟩ := h.ex
  exact ⟨by rw [cell_of_heap hc]; exact h1 b, heap_lt hc, fun i => frozen_of_heap hc i⟩
theorem IxAt.kid (h : IxAt w ib pl kd us L) {i : Nat} (hi : i < 48) : w.cell? ⟨ib, 256 + i * 2, none⟩ = some (.int .i64 (kd i).1) ∧ w.cell? ⟨ib, 256 + i * 2 + 1, none⟩ = some (.int .u64 (kd i).2) := by
  obtain ⟨cur, hc, _, h1, _⟩ := h.ex
  exact ⟨by rw [cell_of_heap hc]; exact (h1 i hi).1, by rw [cell_of_heap hc]; exact (h1 i hi).2⟩
theorem IxAt.used (h : IxAt w ib pl kd us L) {i : Nat} {x : Bool} (hi : us[i]? = some x) : w.cell? ⟨ib, 352 + i, none⟩ = some (.bool x) := by
  obtain ⟨cur, hc, _, _, h1⟩ := h.ex
  rw [cell_of_heap hc]; exact h1 i x hi
set_option maxRecDepth 100000 in
set_option maxHeartbeats 1000000 in
theorem ixGet_any (h : IxAt w ib pl kd us L) (b : UInt8) :
    Calls Tryz.prog 141 #[.pointer (some ⟨ib, 0, none⟩), .int .u8 b.toNat] w fun e w' => e = .returned (.tuple #[hV ((kget L b).getD (0, 0)), .bool (kget L b).isSome]) ∧ Below w.heap.size w w' := by
  obtain ⟨c0, hq, _⟩ := h.place b
  have hle := h.c.le b
  have hg := h.c.get b
  have hb : b.toNat < 256 := b.toNat_lt
  have hb1 : (b.toNat : Int) < 256 := by omega
  rw [hg]
  cases hp : pl b with
  | zero =>
    rw [hp] at c0
    clear h hg hle
    go_enter Tryz.func141, Tryz.ntmps141
    go_wp2_with fail
    refine bodyPost_ret (v := .tuple #[hV (0, 0), .bool false]) (by simp [results, Tryz.results141, go_sem]) rfl ⟨rfl, ?_⟩
    exact ((Below.refl _ _).alloc (Nat.le_refl _) _).alloc (by simp) _
  | succ p =>
    rw [hp] at c0 hle
    obtain ⟨k0, k1⟩ := h.kid (i := p) (by omega)
    have hp1 : (p : Int) < 48 := by omega
    have hp2 : IntKind.u8.wrap (p : Int) = (p : Int) := IntWalk.u8_in _ (by omega)
    have hp3 : (0 : Int) < (p : Int) + 1 := by omega
    rw [if_neg (by omega), Nat.add_sub_cancel]
    obtain ⟨g, hgg⟩ : ∃ g, g = kd p := ⟨_, rfl⟩
    rw [← hgg] at k0 k1 ⊢
    clear h hg hgg
    go_enter Tryz.func141, Tryz.ntmps141
    go_wp2_with fail
    refine bodyPost_ret (v := .tuple #[hV g, .bool true]) (by simp [results, Tryz.results141, go_sem]) rfl ⟨rfl, ?_⟩
    exact (Below.refl _ _).alloc (Nat.le_refl _) _
/-- What a Set leaves: a cell of the index, the child's two cells, its flag. -/
theorem IxAt.turn {pl' : UInt8 → Nat} {L' : KL} (h : IxAt w ib pl kd us L) {b : UInt8} {m n : Nat} {x : Hd} {f : Bool} (hm : m < 48) {W : World} (hc : IxC (upf pl b n) (upf kd m x) (us.set m f) L') (hpl : pl' = upf pl b n)
    (hW : W.heap[ib]? = ((((w.heap[ib]?).map (setO b.toNat (.int .u8 n))).map (setO (352 + m) (.bool f))).map (setO (256 + m * 2) (.int .i64 x.1))).map (setO (256 + m * 2 + 1) (.int .u64 x.2))) : IxAt W ib pl' (upf kd m x) (us.set m f) L' := by
  subst hpl
  obtain ⟨cur, hcu, h1, h2, h3⟩ := h.ex
  rw [hcu] at hW
  have hul := h.c.ul
  have hb : b.toNat < 256 := b.toNat_lt
  have y1 := (Array.getElem?_eq_some_iff.1 (h1 b)).1
  have y2 := (Array.getElem?_eq_some_iff.1 (h2 m hm).1).1
  have y3 := (Array.getElem?_eq_some_iff.1 (h2 m hm).2).1
  have y4 : 352 + m < cur.size := (Array.getElem?_eq_some_iff.1 (h3 m _ (List.getElem?_eq_getElem (by omega)))).1
  refine ⟨hc, _, hW, fun c => ?_, fun i hi => ?_, fun i y hy => ?_⟩
  · have hcl : c.toNat < 256 := c.toNat_lt
    rw [Array.getElem?_setIfInBounds_ne (by omega), Array.getElem?_setIfInBounds_ne (by omega), Array.getElem?_setIfInBounds_ne (by omega)]
    by_cases e : c = b
    · subst e
      rw [upf_self, Array.getElem?_setIfInBounds_self_of_lt y1]
    · have hne : b.toNat ≠ c.toNat := fun e' => e (UInt8.toNat_inj.1 e'.symm)
      rw [upf_ne _ _ e, Array.getElem?_setIfInBounds_ne hne]
      exact h1 c
  · by_cases e : i = m
    · subst e
      rw [upf_self]
      refine ⟨?_, ?_⟩
      · rw [Array.getElem?_setIfInBounds_ne (by omega), Array.getElem?_setIfInBounds_self_of_lt (by simpa using y2)]
      · rw [Array.getElem?_setIfInBounds_self_of_lt (by simpa using y3)]
    · rw [upf_ne _ _ e]
      refine ⟨?_, ?_⟩ <;> rw [Array.getElem?_setIfInBounds_ne (by omega), Array.getElem?_setIfInBounds_ne (by omega), Array.getElem?_setIfInBounds_ne (by omega), Array.getElem?_setIfInBounds_ne (by omega)]
      · exact (h2 i hi).1
      · exact (h2 i hi).2
  · have hil : i < us.length := by have := (List.getElem?_eq_some_iff.1 hy).1; simpa using this
    rw [Array.getElem?_setIfInBounds_ne (by omega), Array.getElem?_setIfInBounds_ne (by omega)]
    rw [List.getElem?_set] at hy
    by_cases e : m = i
    · subst e
      rw [if_pos rfl, if_pos hil] at hy
      injection hy with hy
      rw [← hy, Array.getElem?_setIfInBounds_self_of_lt (by simpa using y4)]
    · rw [if_neg e] at hy
      rw [Array.getElem?_setIfInBounds_ne (by omega), Array.getElem?_setIfInBounds_ne (by omega)]
      exact h3 i y hy
theorem IxAt.turnOld (h : IxAt w ib pl kd us L) {b : UInt8} {p : Nat} (hp : pl b = p + 1) (x : Hd) {W : World}
    (hW : W.heap[ib]? = ((w.heap[ib]?).map (setO (256 + p * 2) (.int .i64 x.1))).map (setO (256 + p * 2 + 1) (.int .u64 x.2))) : IxAt W ib pl (upf kd p x) us (kput L b x) := by
  obtain ⟨cur, hcu, h1, h2, h3⟩ := h.ex
  rw [hcu] at hW
  have hul := h.c.ul
  have hle := h.c.le b
  have y2 := (Array.getElem?_eq_some_iff.1 (h2 p (by omega)).1).1
  have y3 := (Array.getElem?_eq_some_iff.1 (h2 p (by omega)).2).1
  refine ⟨h.c.old hp x, _, hW, fun c => ?_, fun i hi => ?_, fun i y hy => ?_⟩
  · have hcl : c.toNat < 256 := c.toNat_lt
    rw [Array.getElem?_setIfInBounds_ne (by omega), Array.getElem?_setIfInBounds_ne (by omega)]
    exact h1 c
  · by_cases e : i = p
    · subst e
      rw [upf_self]
      refine ⟨?_, ?_⟩
      · rw [Array.getElem?_setIfInBounds_ne (by omega), Array.getElem?_setIfInBounds_self_of_lt (by simpa using y2)]
      · rw [Array.getElem?_setIfInBounds_self_of_lt (by simpa using y3)]
    · rw [upf_ne _ _ e]
      refine ⟨?_, ?_⟩ <;> rw [Array.getElem?_setIfInBounds_ne (by omega), Array.getElem?_setIfInBounds_ne (by omega)]
      · exact (h2 i hi).1
      · exact (h2 i hi).2
  · have hil := (List.getElem?_eq_some_iff.1 hy).1
    rw [Array.getElem?_setIfInBounds_ne (by omega), Array.getElem?_setIfInBounds_ne (by omega)]
    exact h3 i y hy
def IxEnd (w : World) (ib : Nat) (L : KL) (e : Ending) (w' : World) : Prop := e = .returned (.tuple #[]) ∧ (∃ pl kd us, IxAt w' ib pl kd us L) ∧ Upd [ib] w w'
set_option maxRecDepth 100000 in
set_option maxHeartbeats 1000000 in
theorem ixSet_old (h : IxAt w ib pl kd us L) {b : UInt8} {p : Nat} (hp : pl b = p + 1) (x : Hd) :
    Calls Tryz.prog 142 #[.pointer (some ⟨ib, 0, none⟩), .int .u8 b.toNat, hV x] w (IxEnd w ib (kput L b x)) := by
  have hB1 : Below w.heap.size w (w.alloc (.cells #[.int .i64 x.1, .int .u64 x.2] 77)) := (Below.refl _ _).alloc (Nat.le_refl _) _
  have h1 := h.below hB1
  obtain ⟨c0, hq, hfr⟩ := h1.place b
  rw [hp] at c0
  have hle := h.c.le b
  obtain ⟨k0, k1⟩ := h1.kid (i := p) (by omega)
  have hbx := heap_alloc_new w (.cells #[.int .i64 x.1, .int .u64 x.2] 77)
  obtain ⟨z0, z1⟩ := (⟨by rw [cell_of_heap hbx]; rfl, by rw [cell_of_heap hbx]; rfl⟩ : (w.alloc (.cells #[.int .i64 x.1, .int .u64 x.2] 77)).cell? ⟨w.heap.size, 0, none⟩ = some (.int .i64 x.1) ∧ (w.alloc (.cells #[.int .i64 x.1, .int .u64 x.2] 77)).cell? ⟨w.heap.size, 1, none⟩ = some (.int .u64 x.2))
  have zl := heap_lt hbx
  have f1 := hfr (256 + p * 2)
  have f2 := hfr (256 + p * 2 + 1)
  have hb : b.toNat < 256 := b.toNat_lt
  have hb1 : (b.toNat : Int) < 256 := by omega
  have hp1 : (p : Int) < 48 := by omega
  have hp0 : ¬ (p : Int) < 0 := by omega
  have hp4 : IntKind.i64.wrap (p : Int) = (p : Int) := IntWalk.i64_in _ (by omega)
  have hp5 : IntKind.i64.wrap ((p : Int) + 1) = (p : Int) + 1 := IntWalk.i64_in _ (by omega)
  have hne : ib ≠ w.heap.size := by have := (h.place b).2.1; omega
  have hfin : Hid (∀ W, W.heap[ib]? = (((w.alloc (.cells #[.int .i64 x.1, .int .u64 x.2] 77)).heap[ib]?).map (setO (256 + p * 2) (.int .i64 x.1))).map (setO (256 + p * 2 + 1) (.int .u64 x.2)) → Upd [ib] (w.alloc (.cells #[.int .i64 x.1, .int .u64 x.2] 77)) W → (∃ pl kd us, IxAt W ib pl kd us (kput L b x)) ∧ Upd [ib] w W) := Lib.hid fun W hW hu =>
    ⟨⟨_, _, _, h1.turnOld hp x hW⟩, (Upd.of_below hB1).trans hu⟩
  clear h h1 hB1 hbx hfr hp hle
  go_enter Tryz.func142, Tryz.ntmps142
  go_upto_region 1 with fail
  generalize w.alloc (.cells #[.int .i64 x.1, .int .u64 x.2] 77) = W1 at *
  generalize w.heap.size = xb at *
  go_upto_region 5 with fail
  go_region_with (fail)
  all_goals
    go_wp2_with fail
    go_end0
    refine ⟨rfl, hfin.out _ ?_ ?_⟩
    · rw [heap_drew, heap_self, heap_self]
    · exact (((Upd.refl [ib] _).setCell (by simp) _).setCell (by simp) _).drew
set_option maxRecDepth 100000 in
set_option maxHeartbeats 1000000 in
theorem ixSet_new (h : IxAt w ib pl kd us L) {b : UInt8} (hp : pl b = 0) (hL : L.length < 48) (x : Hd) :
    Calls Tryz.prog 142 #[.pointer (some ⟨ib, 0, none⟩), .int .u8 b.toNat, hV x] w (IxEnd w ib (kput L b x)) := by
  have hB1 : Below w.heap.size w (w.alloc (.cells #[.int .i64 x.1, .int .u64 x.2] 77)) := (Below.refl _ _).alloc (Nat.le_refl _) _
  have h1 := h.below hB1
  obtain ⟨c0, hq, hfr⟩ := h1.place b
  rw [hp] at c0
  have hin := h.c.room hL
  have hul := h.c.ul
  have hlt : us.idxOf false < us.length := List.idxOf_lt_length_of_mem hin
  have hm0 : us[us.idxOf false]? = some false := by rw [List.getElem?_eq_getElem hlt]; simp
  have hIx := index_false ib 352 us 48 (w.alloc (.cells #[.int .i64 x.1, .int .u64 x.2] 77)) (by omega) (fun i y hi => h1.used hi) hin
  rw [hul] at hIx
  obtain ⟨m, hme⟩ : ∃ m, m = us.idxOf false := ⟨_, rfl⟩
  rw [← hme] at hIx hm0 hlt
  replace hIx := Lib.hid hIx
  have hml : m < 48 := by omega
  obtain ⟨k0, k1⟩ := h1.kid (i := m) hml
  have u0 := h1.used hm0
  have hbx := heap_alloc_new w (.cells #[.int .i64 x.1, .int .u64 x.2] 77)
  have zl := heap_lt hbx
  have hb : b.toNat < 256 := b.toNat_lt
  have hb1 : (b.toNat : Int) < 256 := by omega
  have hm1 : (m : Int) < 48 := by omega
  have hm2 : (0 : Int) ≤ (m : Int) := by omega
  have hm3 : IntKind.i64.wrap ((m : Int) + 1) = ((m + 1 : Nat) : Int) := IntWalk.i64_in _ (by omega)
  have hm4 : IntKind.u8.wrap ((m + 1 : Nat) : Int) = ((m + 1 : Nat) : Int) := IntWalk.u8_in _ (by omega)
  have hne : ib ≠ w.heap.size := by have := (h.place b).2.1; omega
  have hfin : Hid (∀ W, W.heap[ib]? = (((((w.alloc (.cells #[.int .i64 x.1, .int .u64 x.2] 77)).heap[ib]?).map (setO b.toNat (.int .u8 ((m + 1 : Nat) : Int)))).map (setO (352 + m) (.bool true))).map (setO (256 + m * 2) (.int .i64 x.1))).map (setO (256 + m * 2 + 1) (.int .u64 x.2)) → Upd [ib] (w.alloc (.cells #[.int .i64 x.1, .int .u64 x.2] 77)) W → (∃ pl kd us, IxAt W ib pl kd us (kput L b x)) ∧ Upd [ib] w W) := Lib.hid fun W hW hu =>
    ⟨⟨_, _, _, h1.turn hml (h.c.new hp hm0 x) rfl hW⟩, (Upd.of_below hB1).trans hu⟩
  have hmid : Hid (∀ W, W.heap[ib]? = (((w.alloc (.cells #[.int .i64 x.1, .int .u64 x.2] 77)).heap[ib]?).map (setO b.toNat (.int .u8 ((m + 1 : Nat) : Int)))).map (setO (352 + m) (.bool true)) → Upd [ib] (w.alloc (.cells #[.int .i64 x.1, .int .u64 x.2] 77)) W → (W.cell? ⟨ib, 256 + m * 2, none⟩ = some (.int .i64 (kd m).1) ∧ W.cell? ⟨ib, 256 + m * 2 + 1, none⟩ = some (.int .u64 (kd m).2) ∧ ib < W.heap.size ∧ (∀ i, W.frozen? ⟨ib, i, none⟩ = false)) ∧ W.cell? ⟨w.heap.size, 0, none⟩ = some (.int .i64 x.1) ∧ W.cell? ⟨w.heap.size, 1, none⟩ = some (.int .u64 x.2) ∧ w.heap.size < W.heap.size) := Lib.hid fun W hW hu => by
    obtain ⟨cur, hcu, _, h2, _⟩ := h1.ex
    rw [hcu] at hW
    have hbx2 := hu.heap hbx (by simpa using Ne.symm hne)
    refine ⟨⟨?_, ?_, heap_lt hW, fun i => frozen_of_heap hW i⟩, ?_, ?_, heap_lt hbx2⟩
    · rw [cell_of_heap hW, Array.getElem?_setIfInBounds_ne (by omega), Array.getElem?_setIfInBounds_ne (by omega)]; exact (h2 m hml).1
    · rw [cell_of_heap hW, Array.getElem?_setIfInBounds_ne (by omega), Array.getElem?_setIfInBounds_ne (by omega)]; exact (h2 m hml).2
    · rw [cell_of_heap hbx2]; rfl
    · rw [cell_of_heap hbx2]; rfl
  have f1 := hfr b.toNat
  have f2 := hfr (352 + m)
  clear h h1 hB1 hbx hfr hp hul hlt hm0 hme hin
  go_enter Tryz.func142, Tryz.ntmps142
  go_upto_region 1 with fail
  generalize w.alloc (.cells #[.int .i64 x.1, .int .u64 x.2] 77) = W1 at *
  generalize w.heap.size = xb at *
  go_wp2_with fail
  refine hIx.out.mono ?_
  clear hIx
  rintro e w2 ⟨rfl, rfl⟩
  go_upto_region 4 with fail
  go_cut [6] (fun v6 wz => v6 = .int .i64 m ∧ wz.heap[ib]? = ((W1.heap[ib]?).map (setO b.toNat (.int .u8 ((m + 1 : Nat) : Int)))).map (setO (352 + m) (.bool true)) ∧ Upd [ib] W1 wz)
  case first =>
    go_region_with (fail)
    all_goals
      go_wp2_with fail
      go_meet
      refine ⟨rfl, ?_, ?_⟩
      · rw [heap_drew, heap_self, heap_self, IntWalk.u8_in ((m : Int) + 1) (by omega)]
        rfl
      · exact (((Upd.refl [ib] _).setCell (by simp) _).setCell (by simp) _).drew
  case rest =>
    obtain ⟨rfl, hz, hu⟩ := hcut
    obtain ⟨⟨y0, y1, yq, yf⟩, z0, z1, zq⟩ := hmid.out wc hz hu
    have g0 := yf (256 + m * 2)
    have g1 := yf (256 + m * 2 + 1)
    replace hz := Lib.hid hz
    replace hu := Lib.hid hu
    clear c0 hq k0 k1 u0 f1 f2 yf zl hmid
    go_upto_region 5 with fail
    go_region_with (fail)
    all_goals
      go_wp2_with fail
      go_end0
      refine ⟨rfl, hfin.out _ ?_ ?_⟩
      · rw [heap_drew, heap_self, heap_self, hz.out]
      · exact hu.out.trans ((((Upd.refl [ib] _).setCell (by simp) _).setCell (by simp) _).drew)
set_option maxRecDepth 100000 in
set_option maxHeartbeats 1000000 in
theorem ixDrop_some (h : IxAt w ib pl kd us L) {b : UInt8} {p : Nat} (hp : pl b = p + 1) :
    Calls Tryz.prog 139 #[.pointer (some ⟨ib, 0, none⟩), .int .u8 b.toNat] w (IxEnd w ib (kdel L b)) := by
  have hB1 : Below w.heap.size w (w.alloc (.cells #[.int .i64 0, .int .u64 0] 77)) := (Below.refl _ _).alloc (Nat.le_refl _) _
  have h1 := h.below hB1
  obtain ⟨d0, dq, _⟩ := h.place b
  obtain ⟨c0, hq, hfr⟩ := h1.place b
  rw [hp] at c0 d0
  have hle := h.c.le b
  have hml : p < 48 := by omega
  obtain ⟨k0, k1⟩ := h1.kid (i := p) hml
  have u0 := h1.used ((h.c.use p).2 ⟨b, hp⟩)
  have hbx := heap_alloc_new w (.cells #[.int .i64 0, .int .u64 0] 77)
  obtain ⟨z0, z1⟩ := (⟨by rw [cell_of_heap hbx]; rfl, by rw [cell_of_heap hbx]; rfl⟩ : (w.alloc (.cells #[.int .i64 0, .int .u64 0] 77)).cell? ⟨w.heap.size, 0, none⟩ = some (.int .i64 0) ∧ (w.alloc (.cells #[.int .i64 0, .int .u64 0] 77)).cell? ⟨w.heap.size, 1, none⟩ = some (.int .u64 0))
  have zl := heap_lt hbx
  have hb : b.toNat < 256 := b.toNat_lt
  have hb1 : (b.toNat : Int) < 256 := by omega
  have hm1 : (p : Int) < 48 := by omega
  have hm2 : IntKind.u8.wrap (p : Int) = (p : Int) := IntWalk.u8_in _ (by omega)
  have hm3 : (0 : Int) < (p : Int) + 1 := by omega
  have hne : ib ≠ w.heap.size := by omega
  have n1 : b.toNat ≠ 352 + p := by omega
  have n2 : b.toNat ≠ 256 + p * 2 := by omega
  have n3 : b.toNat ≠ 256 + p * 2 + 1 := by omega
  have hfin : Hid (∀ W, W.heap[ib]? = (((((w.alloc (.cells #[.int .i64 0, .int .u64 0] 77)).heap[ib]?).map (setO (256 + p * 2) (.int .i64 0))).map (setO (256 + p * 2 + 1) (.int .u64 0))).map (setO (352 + p) (.bool false))).map (setO b.toNat (.int .u8 0)) → Upd [ib] (w.alloc (.cells #[.int .i64 0, .int .u64 0] 77)) W → (∃ pl kd us, IxAt W ib pl kd us (kdel L b)) ∧ Upd [ib] w W) := Lib.hid fun W hW hu => by
    refine ⟨⟨_, _, _, h1.turn (x := (0, 0)) (n := 0) hml (h.c.drop hp (0, 0)) rfl ?_⟩, (Upd.of_below hB1).trans hu⟩
    rw [hW]
    obtain ⟨cur, hcu, _⟩ := h1.ex
    rw [hcu]
    simp only [Option.map_some, setO, Option.some.injEq, Obj.cells.injEq, and_true]
    rw [Array.setIfInBounds_comm _ _ (show (352 + p) ≠ b.toNat by omega), Array.setIfInBounds_comm _ _ (show (256 + p * 2 + 1) ≠ b.toNat by omega), Array.setIfInBounds_comm _ _ (show (256 + p * 2) ≠ b.toNat by omega), Array.setIfInBounds_comm _ _ (show (256 + p * 2 + 1) ≠ 352 + p by omega), Array.setIfInBounds_comm _ _ (show (256 + p * 2) ≠ 352 + p by omega)]
    rfl
  have f1 := hfr b.toNat
  have f2 := hfr (352 + p)
  have f3 := hfr (256 + p * 2)
  have f4 := hfr (256 + p * 2 + 1)
  clear h h1 hB1 hbx hfr hp hle
  go_enter Tryz.func139, Tryz.ntmps139
  go_upto_region 3 with fail
  generalize w.alloc (.cells #[.int .i64 0, .int .u64 0] 77) = W1 at *
  generalize w.heap.size = xb at *
  go_region_with (fail)
  all_goals
    go_wp2_with fail
    go_end0
    refine ⟨rfl, hfin.out _ ?_ ?_⟩
    · rw [heap_drew, heap_self, heap_self, heap_self, heap_self]
    · exact (((((Upd.refl [ib] _).setCell (by simp) _).setCell (by simp) _).setCell (by simp) _).setCell (by simp) _).drew
theorem ixDrop_none (h : IxAt w ib pl kd us L) {b : UInt8} (hp : pl b = 0) :
    Calls Tryz.prog 139 #[.pointer (some ⟨ib, 0, none⟩), .int .u8 b.toNat] w (IxEnd w ib (kdel L b)) := by
  obtain ⟨c0, hq, _⟩ := h.place b
  rw [hp] at c0
  have hg := h.c.get b
  rw [if_pos hp] at hg
  rw [kdel_none hg]
  have hfin := Lib.hid h
  have hb1 : (b.toNat : Int) < 256 := by have : b.toNat < 256 := b.toNat_lt; omega
  clear h hg hp
  go_enter Tryz.func139, Tryz.ntmps139
  go_wp2_with fail
  go_end0
  exact ⟨rfl, ⟨_, _, _, hfin.out⟩, Upd.refl _ _⟩
set_option maxRecDepth 100000 in
set_option maxHeartbeats 1000000 in
theorem ixFrom_any (h : IxAt w ib pl kd us L) (i : Nat) (hi : i ≤ 256) :
    Calls Tryz.prog 140 #[.pointer (some ⟨ib, 0, none⟩), .int .i64 i] w fun e w' => e = .returned (fromV (kfrom L i)) ∧ Below w.heap.size w w' := by
  have hs := h.c.ks
  have hcl := Lib.hid fun b => (h.place b).1
  have hkd := Lib.hid fun (m : Nat) (hm : m < 48) => h.kid hm
  have hle := Lib.hid h.c.le
  have hge := Lib.hid h.c.get
  have hat := Lib.hid fun k b x => kfrom_at (i := i) (k := k) (b := b) (h := x) hs
  have hend := Lib.hid (kfrom_end (i := i) hs)
  have hq := (h.place 0).2.1
  obtain ⟨res, hres⟩ : ∃ res, res = kfrom L i := ⟨_, rfl⟩
  rw [← hres] at hend ⊢
  replace hat := Lib.hid fun k b x => (hres.symm ▸ hat.out k b x : b.toNat = k → i ≤ k → (∀ c : UInt8, i ≤ c.toNat → c.toNat < k → kget L c = none) → kget L b = some x → res = some (b, x))
  have hi0 : ¬ (i : Int) < 0 := by omega
  have hmx : max (i : Int) 0 = (i : Int) := by omega
  clear h hs hres
  go_enter Tryz.func140, Tryz.ntmps140
  go_wp2_with fail
  go_loopg [7] (256 - i) (fun gk v wr => ∃ k : Nat, gk = 256 - k ∧ i ≤ k ∧ k ≤ 256 ∧ v = .int .i64 k ∧ (∀ c : UInt8, i ≤ c.toNat → c.toNat < k → kget L c = none) ∧ Below w.heap.size w wr ∧ wr.heap[w.heap.size]? = some (.cells #[.int .i64 0, .int .u64 0] 77))
  case atStart => exact ⟨i, rfl, Nat.le_refl _, hi, rfl, fun c h1 h2 => by omega, (Below.refl _ _).alloc (Nat.le_refl _) _, heap_alloc_new _ _⟩
  case round =>
    obtain ⟨k, rfl, hik, hk, rfl, hlo, hB, hbx⟩ := hrel
    by_cases hlt : k < 256
    · obtain ⟨b, hb⟩ : ∃ b : UInt8, b.toNat = k := ⟨UInt8.ofNat k, by simp [Nat.mod_eq_of_lt hlt]⟩
      have x0 := hcl.out b
      rw [hb] at x0
      have x0' := keep hB x0
      have q1 := block_lt_of_cell x0'
      have hA2 : (k : Int) < 256 := by omega
      have hA3 : (0 : Int) ≤ (k : Int) := by omega
      have hw1 : IntKind.i64.wrap ((k : Int) + 1) = (k : Int) + 1 := IntWalk.i64_in _ (by omega)
      have hw8 : IntKind.u8.wrap (k : Int) = (k : Int) := IntWalk.u8_in _ (by omega)
      have hg := hge.out b
      have hlb := hle.out b
      cases hp : pl b with
      | succ p =>
        rw [hp] at x0' hlb
        rw [if_neg (by omega), hp, Nat.add_sub_cancel] at hg
        obtain ⟨y0, y1⟩ := hkd.out p (by omega)
        obtain ⟨x, hx⟩ : ∃ x, x = kd p := ⟨_, rfl⟩
        rw [← hx] at hg y0 y1
        have x1' := keep hB y0
        have x2' := keep hB y1
        have hp1 : (p : Int) < 48 := by omega
        have hp2 : IntKind.u8.wrap (p : Int) = (p : Int) := IntWalk.u8_in _ (by omega)
        have hp3 : (0 : Int) < (p : Int) + 1 := by omega
        have hr : Hid (res = some (b, x)) := Lib.hid (hat.out k b x hb hik hlo hg)
        have hfv : Hid (fromV (some (b, x)) = .tuple #[.int .u8 k, hV x, .bool true]) := Lib.hid (by unfold fromV; simp [hb])
        have f0 := frozen_of_heap hbx 0
        have f1 := frozen_of_heap hbx 1
        have z0 : wr.cell? ⟨w.heap.size, 0, none⟩ = some (.int .i64 0) := by rw [cell_of_heap hbx]; rfl
        have z1 : wr.cell? ⟨w.heap.size, 1, none⟩ = some (.int .u64 0) := by rw [cell_of_heap hbx]; rfl
        have hqx := heap_lt hbx
        replace hB := Lib.hid hB
        replace hb := Lib.hid hb
        clear hbx x0 y0 y1 hlo hg hp hx hlb
        go_upto_region 6 with fail
        go_region_with (fail)
        all_goals
          go_wp2_with fail
          refine bodyPost_ret (v := .tuple #[.int .u8 k, hV x, .bool true]) (by simp [results, Tryz.results140, go_sem, z0, z1]) rfl ⟨by rw [hr.out, hfv.out], ?_⟩
          exact (hB.out.drew.setCell (p := ⟨w.heap.size, 0, none⟩) (Nat.le_refl _) _).setCell (p := ⟨w.heap.size, 1, none⟩) (Nat.le_refl _) _
      | zero =>
        rw [hp] at x0'
        rw [if_pos hp] at hg
        have hlo' : Hid (∀ c : UInt8, i ≤ c.toNat → c.toNat < k + 1 → kget L c = none) := Lib.hid fun c h1 h2 => by
          by_cases e : c.toNat = k
          · rw [show c = b from UInt8.toNat_inj.1 (by omega)]; exact hg
          · exact hlo c h1 (by omega)
        replace hB := Lib.hid hB
        replace hbx := Lib.hid hbx
        replace hb := Lib.hid hb
        clear x0 hlo hg hp hlb
        go_wp2_with fail
        go_roundg (256 - (k + 1))
        case rel => exact ⟨k + 1, rfl, by omega, by omega, by go_num, hlo'.out, hB.out, hbx.out⟩
        case measure => omega
    · obtain rfl : k = 256 := by omega
      have hr : Hid (res = none) := Lib.hid (hend.out hlo)
      have f0 := frozen_of_heap hbx 0
      have f1 := frozen_of_heap hbx 1
      have hqx := heap_lt hbx
      have z0 : wr.cell? ⟨w.heap.size, 0, none⟩ = some (.int .i64 0) := by rw [cell_of_heap hbx]; rfl
      have z1 : wr.cell? ⟨w.heap.size, 1, none⟩ = some (.int .u64 0) := by rw [cell_of_heap hbx]; rfl
      have hb3 := Below.heap' ((Below.refl _ ((wr.setCell ⟨w.heap.size, 0, none⟩ (.int .i64 0)).setCell ⟨w.heap.size, 1, none⟩ (.int .u64 0))).alloc (Nat.le_refl _) (.cells #[.int .i64 0, .int .u64 0] 77)).drew (box_set hbx (.int .i64 0) (.int .u64 0))
      have e0 := cell_of_heap hb3 0
      have e1 := cell_of_heap hb3 1
      replace e0 := Lib.hid e0
      replace e1 := Lib.hid e1
      replace hB := Lib.hid hB
      clear hbx hb3 hlo
      go_upto_region 8 with fail
      go_region_with (fail)
      all_goals
        go_wp2_with fail
        refine bodyPost_ret (v := fromV none) (by simp [results, Tryz.results140, go_sem, fromV, e0.out, e1.out]) rfl ⟨by rw [hr.out], ?_⟩
        have hB2 := (hB.out.setCell (p := ⟨w.heap.size, 0, none⟩) (Nat.le_refl _) (.int .i64 0)).setCell (p := ⟨w.heap.size, 1, none⟩) (Nat.le_refl _) (.int .u64 0)
        exact (hB2.alloc hB2.size _).drew
end
end Go.Proofs.YtmhlokomlngdmaaGreat
