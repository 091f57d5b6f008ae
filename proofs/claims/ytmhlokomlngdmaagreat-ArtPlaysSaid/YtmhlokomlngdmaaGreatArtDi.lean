/- A node's children by a place for each byte. -/
import Derived.Test.YtmhlokomlngdmaaGreatArtSf
namespace Go.Proofs.YtmhlokomlngdmaaGreat
open Go.RowKit
theorem kget_kput {L : KL} (hs : KSort L) (b : UInt8) (x : Hd) (b' : UInt8) : kget (kput L b x) b' = if b = b' then some x else kget L b' := by
  by_cases e : b = b'
  · subst e
    rw [if_pos rfl]
    exact (kget_iff (ks_put hs b x)).2 (mem_kput.2 (.inl rfl))
  · rw [if_neg e]
    cases hg : kget L b' with
    | none =>
      refine kget_none_iff.2 fun y hy he => ?_
      rcases mem_kput.1 hy with rfl | ⟨_, h2⟩
      · exact e he
      · exact kget_none_iff.1 hg y h2 he
    | some g => exact (kget_iff (ks_put hs b x)).2 (mem_kput.2 (.inr ⟨Ne.symm e, (kget_iff hs).1 hg⟩))
theorem kget_kdel {L : KL} (hs : KSort L) (b b' : UInt8) : kget (kdel L b) b' = if b = b' then none else kget L b' := by
  by_cases e : b = b'
  · subst e
    rw [if_pos rfl]
    exact kget_none_iff.2 fun y hy => (mem_kdel.1 hy).1
  · rw [if_neg e]
    cases hg : kget L b' with
    | none => exact kget_none_iff.2 fun y hy => kget_none_iff.1 hg y (mem_kdel.1 hy).2
    | some g => exact (kget_iff (ks_del hs b)).2 (mem_kdel.2 ⟨Ne.symm e, (kget_iff hs).1 hg⟩)
theorem kfrom_at {L : KL} (hs : KSort L) {i k : Nat} {b : UInt8} {h : Hd} (hb : b.toNat = k) (hi : i ≤ k) (hlo : ∀ c : UInt8, i ≤ c.toNat → c.toNat < k → kget L c = none) (hg : kget L b = some h) : kfrom L i = some (b, h) := by
  have hm := (kget_iff hs).1 hg
  cases hf : kfrom L i with
  | none =>
    have := kfrom_none hf
    have h1 : (b, h) ∈ L.filter (fun y => decide (i ≤ y.1.toNat)) := List.mem_filter.2 ⟨hm, decide_eq_true (by show i ≤ b.toNat; omega)⟩
    rw [this] at h1
    cases h1
  | some y =>
    obtain ⟨q1, q2, q3⟩ := kfrom_some hs hf
    have h1 : (b, h) ∈ L.filter (fun y => decide (i ≤ y.1.toNat)) := List.mem_filter.2 ⟨hm, decide_eq_true (by show i ≤ b.toNat; omega)⟩
    rw [q3] at h1
    rcases List.mem_cons.1 h1 with e | e
    · rw [e]
    · have h2 := (List.mem_filter.1 e).2
      simp only [decide_eq_true_eq] at h2
      have h3 := hlo y.1 q2 (by omega)
      have h4 := (kget_iff hs).2 (show (y.1, y.2) ∈ L from q1)
      rw [h3] at h4
      cases h4
theorem kfrom_end {L : KL} (hs : KSort L) {i : Nat} (hlo : ∀ c : UInt8, i ≤ c.toNat → c.toNat < 256 → kget L c = none) : kfrom L i = none := by
  cases hf : kfrom L i with
  | none => rfl
  | some y =>
    obtain ⟨q1, q2, _⟩ := kfrom_some hs hf
    have h3 := hlo y.1 q2 y.1.toNat_lt
    have h4 := (kget_iff hs).2 (show (y.1, y.2) ∈ L from q1)
    rw [h3] at h4
    cases h4
theorem heap_drew (w : World) : w.drew.heap = w.heap := rfl
structure DiAt (w : World) (db : Nat) (L : KL) : Prop where
  ex : ∃ cur, w.heap[db]? = some (.cells cur 168) ∧ ∀ b : UInt8, cur[b.toNat * 2]? = some (.int .i64 ((kget L b).getD (0, 0)).1) ∧ cur[b.toNat * 2 + 1]? = some (.int .u64 ((kget L b).getD (0, 0)).2) ∧ cur[512 + b.toNat]? = some (.bool (kget L b).isSome)
section
variable {w : World} {db : Nat} {L : KL}
theorem DiAt.cells (h : DiAt w db L) (b : UInt8) : w.cell? ⟨db, b.toNat * 2, none⟩ = some (.int .i64 ((kget L b).getD (0, 0)).1) ∧ w.cell? ⟨db, b.toNat * 2 + 1, none⟩ = some (.int .u64 ((kget L b).getD (0, 0)).2) ∧ w.cell? ⟨db, 512 + b.toNat, none⟩ = some (.bool (kget L b).isSome) ∧ db < w.heap.size ∧ ∀ i, w.frozen? ⟨db, i, none⟩ = false := by
  obtain ⟨cur, hc, h1⟩ := h.ex
  obtain ⟨q1, q2, q3⟩ := h1 b
  exact ⟨by rw [cell_of_heap hc]; exact q1, by rw [cell_of_heap hc]; exact q2, by rw [cell_of_heap hc]; exact q3, heap_lt hc, fun i => frozen_of_heap hc i⟩
theorem DiAt.below {w' : World} (h : DiAt w db L) (hb : Below w.heap.size w w') : DiAt w' db L := by
  obtain ⟨cur, hc, h1⟩ := h.ex
  exact ⟨cur, Below.heap' hb hc, h1⟩
set_option maxRecDepth 100000 in
set_option maxHeartbeats 1000000 in
theorem diGet_any (h : DiAt w db L) (b : UInt8) :
    Calls Tryz.prog 145 #[.pointer (some ⟨db, 0, none⟩), .int .u8 b.toNat] w fun e w' => e = .returned (.tuple #[hV ((kget L b).getD (0, 0)), .bool (kget L b).isSome]) ∧ Below w.heap.size w w' := by
  obtain ⟨c0, c1, c2, hq, _⟩ := h.cells b
  obtain ⟨g, hg⟩ : ∃ g, g = (kget L b).getD (0, 0) := ⟨_, rfl⟩
  obtain ⟨f, hf⟩ : ∃ f, f = (kget L b).isSome := ⟨_, rfl⟩
  rw [← hg] at c0 c1 ⊢
  rw [← hf] at c2 ⊢
  have hb : b.toNat < 256 := b.toNat_lt
  have hb1 : (b.toNat : Int) < 256 := by omega
  clear h hg hf
  go_enter Tryz.func145, Tryz.ntmps145
  go_upto_region 1 with fail
  go_region_with (fail)
  all_goals
    go_wp2_with fail
    refine bodyPost_ret (v := .tuple #[hV g, .bool f]) (by simp [results, Tryz.results145, go_sem]) rfl ⟨rfl, ?_⟩
    exact ((Below.refl _ _).alloc (Nat.le_refl _) _).drew
theorem DiAt.turn (h : DiAt w db L) {o : Option Hd} {L' : KL} (b : UInt8) (hL' : ∀ b', kget L' b' = if b = b' then o else kget L b') {W : World}
    (hW : W.heap[db]? = (((w.heap[db]?).map (setO (b.toNat * 2) (.int .i64 (o.getD (0, 0)).1))).map (setO (b.toNat * 2 + 1) (.int .u64 (o.getD (0, 0)).2))).map (setO (512 + b.toNat) (.bool o.isSome))) : DiAt W db L' := by
  obtain ⟨cur, hc, h1⟩ := h.ex
  rw [hc] at hW
  refine ⟨_, hW, fun b' => ?_⟩
  obtain ⟨q1, q2, q3⟩ := h1 b'
  obtain ⟨z1, z2, z3⟩ := h1 b
  have y1 := (Array.getElem?_eq_some_iff.1 z1).1
  have y2 := (Array.getElem?_eq_some_iff.1 z2).1
  have y3 := (Array.getElem?_eq_some_iff.1 z3).1
  have hb : b.toNat < 256 := b.toNat_lt
  have hb' : b'.toNat < 256 := b'.toNat_lt
  rw [hL' b']
  by_cases e : b = b'
  · subst e
    rw [if_pos rfl]
    refine ⟨?_, ?_, ?_⟩
    · rw [Array.getElem?_setIfInBounds_ne (by omega), Array.getElem?_setIfInBounds_ne (by omega), Array.getElem?_setIfInBounds_self_of_lt y1]
    · rw [Array.getElem?_setIfInBounds_ne (by omega), Array.getElem?_setIfInBounds_self_of_lt (by simpa using y2)]
    · rw [Array.getElem?_setIfInBounds_self_of_lt (by simpa using y3)]
  · rw [if_neg e]
    have hne : b.toNat ≠ b'.toNat := fun e' => e (UInt8.toNat_inj.1 e')
    refine ⟨?_, ?_, ?_⟩ <;> rw [Array.getElem?_setIfInBounds_ne (by omega), Array.getElem?_setIfInBounds_ne (by omega), Array.getElem?_setIfInBounds_ne (by omega)]
    · exact q1
    · exact q2
    · exact q3
set_option maxRecDepth 100000 in
set_option maxHeartbeats 1000000 in
theorem diSet_any (h : DiAt w db L) (hs : KSort L) (b : UInt8) (x : Hd) :
    Calls Tryz.prog 146 #[.pointer (some ⟨db, 0, none⟩), .int .u8 b.toNat, hV x] w fun e w' => e = .returned (.tuple #[]) ∧ DiAt w' db (kput L b x) ∧ Upd [db] w w' := by
  have hB1 : Below w.heap.size w (w.alloc (.cells #[.int .i64 x.1, .int .u64 x.2] 77)) := (Below.refl _ _).alloc (Nat.le_refl _) _
  have h1 := h.below hB1
  obtain ⟨c0, c1, c2, hq, hfr⟩ := h1.cells b
  have hbx := heap_alloc_new w (.cells #[.int .i64 x.1, .int .u64 x.2] 77)
  obtain ⟨z0, z1⟩ := (⟨by rw [cell_of_heap hbx]; rfl, by rw [cell_of_heap hbx]; rfl⟩ : (w.alloc (.cells #[.int .i64 x.1, .int .u64 x.2] 77)).cell? ⟨w.heap.size, 0, none⟩ = some (.int .i64 x.1) ∧ (w.alloc (.cells #[.int .i64 x.1, .int .u64 x.2] 77)).cell? ⟨w.heap.size, 1, none⟩ = some (.int .u64 x.2))
  have zl := heap_lt hbx
  have f0 := hfr (b.toNat * 2)
  have f1 := hfr (b.toNat * 2 + 1)
  have f2 := hfr (512 + b.toNat)
  have hb : b.toNat < 256 := b.toNat_lt
  have hb1 : (b.toNat : Int) < 256 := by omega
  have hfin : Hid (∀ W, W.heap[db]? = ((((w.alloc (.cells #[.int .i64 x.1, .int .u64 x.2] 77)).heap[db]?).map (setO (b.toNat * 2) (.int .i64 x.1))).map (setO (b.toNat * 2 + 1) (.int .u64 x.2))).map (setO (512 + b.toNat) (.bool true)) → Upd [db] (w.alloc (.cells #[.int .i64 x.1, .int .u64 x.2] 77)) W → DiAt W db (kput L b x) ∧ Upd [db] w W) := Lib.hid fun W hW hu =>
    ⟨h1.turn (o := some x) b (kget_kput hs b x) hW, (Upd.of_below hB1).trans hu⟩
  have hne : db ≠ w.heap.size := by have := (h.cells b).2.2.2.1; omega
  clear h h1 hs hB1 hbx hfr
  go_enter Tryz.func146, Tryz.ntmps146
  go_upto_region 1 with fail
  generalize w.alloc (.cells #[.int .i64 x.1, .int .u64 x.2] 77) = W1 at *
  generalize w.heap.size = xb at *
  go_region_with (fail)
  all_goals
    go_wp2_with fail
    go_end0
    refine ⟨rfl, hfin.out _ ?_ ?_⟩
    · rw [heap_drew, heap_self, heap_self, heap_self]
    · exact ((((Upd.refl [db] _).setCell (by simp) _).setCell (by simp) _).setCell (by simp) _).drew
set_option maxRecDepth 100000 in
set_option maxHeartbeats 1000000 in
theorem diDrop_any (h : DiAt w db L) (hs : KSort L) (b : UInt8) :
    Calls Tryz.prog 143 #[.pointer (some ⟨db, 0, none⟩), .int .u8 b.toNat] w fun e w' => e = .returned (.tuple #[]) ∧ DiAt w' db (kdel L b) ∧ Upd [db] w w' := by
  have hB1 : Below w.heap.size w (w.alloc (.cells #[.int .i64 0, .int .u64 0] 77)) := (Below.refl _ _).alloc (Nat.le_refl _) _
  have h1 := h.below hB1
  obtain ⟨c0, c1, c2, hq, hfr⟩ := h1.cells b
  have hbx := heap_alloc_new w (.cells #[.int .i64 0, .int .u64 0] 77)
  obtain ⟨z0, z1⟩ := (⟨by rw [cell_of_heap hbx]; rfl, by rw [cell_of_heap hbx]; rfl⟩ : (w.alloc (.cells #[.int .i64 0, .int .u64 0] 77)).cell? ⟨w.heap.size, 0, none⟩ = some (.int .i64 0) ∧ (w.alloc (.cells #[.int .i64 0, .int .u64 0] 77)).cell? ⟨w.heap.size, 1, none⟩ = some (.int .u64 0))
  have zl := heap_lt hbx
  have f0 := hfr (b.toNat * 2)
  have f1 := hfr (b.toNat * 2 + 1)
  have f2 := hfr (512 + b.toNat)
  have hb : b.toNat < 256 := b.toNat_lt
  have hb1 : (b.toNat : Int) < 256 := by omega
  have hfin : Hid (∀ W, W.heap[db]? = ((((w.alloc (.cells #[.int .i64 0, .int .u64 0] 77)).heap[db]?).map (setO (b.toNat * 2) (.int .i64 0))).map (setO (b.toNat * 2 + 1) (.int .u64 0))).map (setO (512 + b.toNat) (.bool false)) → Upd [db] (w.alloc (.cells #[.int .i64 0, .int .u64 0] 77)) W → DiAt W db (kdel L b) ∧ Upd [db] w W) := Lib.hid fun W hW hu =>
    ⟨h1.turn (o := none) b (kget_kdel hs b) hW, (Upd.of_below hB1).trans hu⟩
  have hne : db ≠ w.heap.size := by have := (h.cells b).2.2.2.1; omega
  clear h h1 hs hB1 hbx hfr
  go_enter Tryz.func143, Tryz.ntmps143
  go_upto_region 1 with fail
  generalize w.alloc (.cells #[.int .i64 0, .int .u64 0] 77) = W1 at *
  generalize w.heap.size = xb at *
  go_region_with (fail)
  all_goals
    go_wp2_with fail
    go_end0
    refine ⟨rfl, hfin.out _ ?_ ?_⟩
    · rw [heap_drew, heap_self, heap_self, heap_self]
    · exact ((((Upd.refl [db] _).setCell (by simp) _).setCell (by simp) _).setCell (by simp) _).drew
set_option maxRecDepth 100000 in
set_option maxHeartbeats 1000000 in
theorem diFrom_any (h : DiAt w db L) (hs : KSort L) (i : Nat) (hi : i ≤ 256) :
    Calls Tryz.prog 144 #[.pointer (some ⟨db, 0, none⟩), .int .i64 i] w fun e w' => e = .returned (fromV (kfrom L i)) ∧ Below w.heap.size w w' := by
  have hcl := Lib.hid fun b => h.cells b
  have hat := Lib.hid fun k b x => kfrom_at (i := i) (k := k) (b := b) (h := x) hs
  have hend := Lib.hid (kfrom_end (i := i) hs)
  have hq := (h.cells 0).2.2.2.1
  obtain ⟨res, hres⟩ : ∃ res, res = kfrom L i := ⟨_, rfl⟩
  rw [← hres] at hend ⊢
  replace hat := Lib.hid fun k b x => (hres.symm ▸ hat.out k b x : b.toNat = k → i ≤ k → (∀ c : UInt8, i ≤ c.toNat → c.toNat < k → kget L c = none) → kget L b = some x → res = some (b, x))
  have hi0 : ¬ (i : Int) < 0 := by omega
  have hmx : max (i : Int) 0 = (i : Int) := by omega
  clear h hs hres
  go_enter Tryz.func144, Tryz.ntmps144
  go_wp2_with fail
  go_loopg [7] (256 - i) (fun gk v wr => ∃ k : Nat, gk = 256 - k ∧ i ≤ k ∧ k ≤ 256 ∧ v = .int .i64 k ∧ (∀ c : UInt8, i ≤ c.toNat → c.toNat < k → kget L c = none) ∧ Below w.heap.size w wr ∧ wr.heap[w.heap.size]? = some (.cells #[.int .i64 0, .int .u64 0] 77))
  case atStart => exact ⟨i, rfl, Nat.le_refl _, hi, rfl, fun c h1 h2 => by omega, (Below.refl _ _).alloc (Nat.le_refl _) _, heap_alloc_new _ _⟩
  case round =>
    obtain ⟨k, rfl, hik, hk, rfl, hlo, hB, hbx⟩ := hrel
    by_cases hlt : k < 256
    · obtain ⟨b, hb⟩ : ∃ b : UInt8, b.toNat = k := ⟨UInt8.ofNat k, by simp [Nat.mod_eq_of_lt hlt]⟩
      obtain ⟨x0, x1, x2, _, _⟩ := hcl.out b
      rw [hb] at x0 x1 x2
      have x0' := keep hB x0
      have x1' := keep hB x1
      have x2' := keep hB x2
      have q1 := block_lt_of_cell x0'
      have hA2 : (k : Int) < 256 := by omega
      have hA3 : (0 : Int) ≤ (k : Int) := by omega
      have hw1 : IntKind.i64.wrap ((k : Int) + 1) = (k : Int) + 1 := IntWalk.i64_in _ (by omega)
      have hw8 : IntKind.u8.wrap (k : Int) = (k : Int) := IntWalk.u8_in _ (by omega)
      cases hg : kget L b with
      | some x =>
        rw [hg] at x0' x1' x2'
        have hr : Hid (res = some (b, x)) := Lib.hid (hat.out k b x hb hik hlo hg)
        have hfv : Hid (fromV (some (b, x)) = .tuple #[.int .u8 k, hV x, .bool true]) := Lib.hid (by unfold fromV; simp [hb])
        have f0 := frozen_of_heap hbx 0
        have f1 := frozen_of_heap hbx 1
        have z0 : wr.cell? ⟨w.heap.size, 0, none⟩ = some (.int .i64 0) := by rw [cell_of_heap hbx]; rfl
        have z1 : wr.cell? ⟨w.heap.size, 1, none⟩ = some (.int .u64 0) := by rw [cell_of_heap hbx]; rfl
        have hqx := heap_lt hbx
        replace hB := Lib.hid hB
        replace hb := Lib.hid hb
        simp only [Option.getD_some, Option.isSome_some] at x0' x1' x2'
        clear hbx x0 x1 x2 hlo hg
        go_upto_region 5 with fail
        go_region_with (fail)
        all_goals
          go_wp2_with fail
          refine bodyPost_ret (v := .tuple #[.int .u8 k, hV x, .bool true]) (by simp [results, Tryz.results144, go_sem, z0, z1]) rfl ⟨by rw [hr.out, hfv.out], ?_⟩
          exact (hB.out.drew.setCell (p := ⟨w.heap.size, 0, none⟩) (Nat.le_refl _) _).setCell (p := ⟨w.heap.size, 1, none⟩) (Nat.le_refl _) _
      | none =>
        rw [hg] at x0' x1' x2'
        have hlo' : Hid (∀ c : UInt8, i ≤ c.toNat → c.toNat < k + 1 → kget L c = none) := Lib.hid fun c h1 h2 => by
          by_cases e : c.toNat = k
          · rw [show c = b from UInt8.toNat_inj.1 (by omega)]; exact hg
          · exact hlo c h1 (by omega)
        replace hB := Lib.hid hB
        replace hbx := Lib.hid hbx
        replace hb := Lib.hid hb
        simp only [Option.getD_none, Option.isSome_none] at x0' x1' x2'
        clear x0 x1 x2 hlo hg
        go_wp2_with fail
        go_roundg (256 - (k + 1))
        case rel => exact ⟨k + 1, rfl, by omega, by omega, by go_num, hlo'.out, hB.out, hbx.out⟩
        case measure => omega
    · obtain rfl : k = 256 := by omega
      have hr : Hid (res = none) := Lib.hid (hend.out hlo)
      have f0 := frozen_of_heap hbx 0
      have f1 := frozen_of_heap hbx 1
      have hqx := heap_lt hbx
      have z0 : wr.cell? ⟨w.heap.size, 0, none⟩ = some (.int .i64 0) := by rw [cell_of_heap hbx]; rfl
      have z1 : wr.cell? ⟨w.heap.size, 1, none⟩ = some (.int .u64 0) := by rw [cell_of_heap hbx]; rfl
      have hb3 := Below.heap' ((Below.refl _ ((wr.setCell ⟨w.heap.size, 0, none⟩ (.int .i64 0)).setCell ⟨w.heap.size, 1, none⟩ (.int .u64 0))).alloc (Nat.le_refl _) (.cells #[.int .i64 0, .int .u64 0] 77)).drew (box_set hbx (.int .i64 0) (.int .u64 0))
      have e0 := cell_of_heap hb3 0
      have e1 := cell_of_heap hb3 1
      replace e0 := Lib.hid e0
      replace e1 := Lib.hid e1
      replace hB := Lib.hid hB
      clear hbx hb3 hlo
      go_upto_region 7 with fail
      go_region_with (fail)
      all_goals
        go_wp2_with fail
        refine bodyPost_ret (v := fromV none) (by simp [results, Tryz.results144, go_sem, fromV, e0.out, e1.out]) rfl ⟨by rw [hr.out], ?_⟩
        have hB2 := (hB.out.setCell (p := ⟨w.heap.size, 0, none⟩) (Nat.le_refl _) (.int .i64 0)).setCell (p := ⟨w.heap.size, 1, none⟩) (Nat.le_refl _) (.int .u64 0)
        exact (hB2.alloc hB2.size _).drew
end
end Go.Proofs.YtmhlokomlngdmaaGreat
