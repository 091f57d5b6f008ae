/- A node's children in order: one that is not there yet is set; one is dropped. -/
import Derived.Test.YtmhlokomlngdmaaGreatArtSf
namespace Go.Proofs.YtmhlokomlngdmaaGreat
open Go.RowKit
section
variable {w W : World} {sb n kc hc : Nat} {ka ha : Option Addr} {L : KL} {va vh : Value} {M : List UInt8} {H : List Hd}
theorem box2 {W : World} {q : Nat} {u v : Value} {t : TypeId} (h : W.heap[q]? = some (.cells #[u, v] t)) : W.cell? ⟨q, 0, none⟩ = some u ∧ W.cell? ⟨q, 1, none⟩ = some v := ⟨by rw [cell_of_heap h]; rfl, by rw [cell_of_heap h]; rfl⟩
theorem SS.insA (h : SS w sb n ka ha kc hc (.slice ka (kb L).length kc) vh (kb L) H W) (hn : n = L.length) (hL : L.length ≤ 900) {i : Nat} (hi : i ≤ L.length) {b : UInt8} {vb : Nat} (hv : W.heap[vb]? = some (.cells #[.int .u8 b.toNat] 5)) (hne : ∀ q, q ∈ ob ka → q ≠ vb) {L' : KL} (hk : kb L' = (kb L).insertIdx i b) (hl : L'.length = n + 1) :
    Calls Tryz.prog 126 #[.slice ka n kc, .int .i64 i, .slice (some ⟨vb, 0, none⟩) 1 1] W fun e w' => ∃ a' c', e = .returned (.slice a' (n + 1) c') ∧ SS w sb n ka ha kc hc (.slice a' (n + 1) c') vh (kb L') H w' ∧ ∀ (q : Nat) (c : Array Value), W.heap[q]? = some (Obj.cells c 77) → w'.heap[q]? = some (Obj.cells c 77) := by
  have hct := InByte.insert_any bcel 0 ka kc (kb L) b vb W h.ky hv (Nat.zero_le _) (by rw [List.length_map]; omega) i (by rw [List.length_map]; exact hi) (fun q hq => hne q (ob_mem.2 hq))
  rw [← hk, show (kb L).length = n by rw [List.length_map, hn]] at hct
  rw [show (kb L).length = n by rw [List.length_map, hn]] at h
  refine hct.mono ?_
  rintro e w' ⟨a', c', he, hr, hu, ho⟩
  rw [show (kb L').length = n + 1 by rw [List.length_map, hl]] at he hr ho
  refine ⟨a', c', he, h.turnA hu hr ho, fun q c hq => hu.heap hq fun hq' => ?_⟩
  obtain ⟨c', hc'⟩ := h.ky.tagB (b := q) (by simpa using hq')
  exact tag_ne hc' hq (by decide) rfl
theorem SS.insH (h : SS w sb n ka ha kc hc va (.slice ha (kh L).length hc) M (kh L) W) (hn : n = L.length) (hL : L.length ≤ 900) {i : Nat} (hi : i ≤ L.length) {x : Hd} {vb : Nat} (hv : W.heap[vb]? = some (.cells #[.int .i64 x.1, .int .u64 x.2] 77)) (hne : ∀ q, q ∈ ob ha → q ≠ vb) {L' : KL} (hk : kh L' = (kh L).insertIdx i x) (hl : L'.length = n + 1) :
    Calls Tryz.prog 127 #[.slice ha n hc, .int .i64 i, .slice (some ⟨vb, 0, none⟩) 1 1] W fun e w' => ∃ a' c', e = .returned (.slice a' (n + 1) c') ∧ SS w sb n ka ha kc hc va (.slice a' (n + 1) c') M (kh L') w' ∧ ∀ (q : Nat) (o : Obj), q ∉ ob ha → W.heap[q]? = some o → w'.heap[q]? = some o := by
  have hct := InHd.insert_any hcel 0 ha hc (kh L) x vb W h.kd hv (Nat.zero_le _) (by rw [List.length_map]; omega) i (by rw [List.length_map]; exact hi) (fun q hq => hne q (ob_mem.2 hq))
  rw [← hk, show (kh L).length = n by rw [List.length_map, hn]] at hct
  rw [show (kh L).length = n by rw [List.length_map, hn]] at h
  refine hct.mono ?_
  rintro e w' ⟨a', c', he, hr, hu, ho⟩
  rw [show (kh L').length = n + 1 by rw [List.length_map, hl]] at he hr ho
  refine ⟨a', c', he, h.turnH hu hr ho, fun q o hq hq' => hu.heap hq' fun hh => hq ?_⟩
  rw [ob_own] at hh
  exact hh
theorem SS.delA (h : SS w sb n ka ha kc hc (.slice ka (kb L).length kc) vh (kb L) H W) (hn : n = L.length) (hL : L.length ≤ 900) {i : Nat} (hi : i < L.length) {L' : KL} (hk : kb L' = (kb L).eraseIdx i) (hl : L'.length = n - 1) :
    Calls Tryz.prog 124 #[.slice ka n kc, .int .i64 i, .int .i64 ((i : Int) + 1)] W fun e w' => ∃ a' c', e = .returned (.slice a' (n - 1) c') ∧ SS w sb n ka ha kc hc (.slice a' (n - 1) c') vh (kb L') H w' := by
  have hct := InByte.delete_any bcel 0 ka kc (kb L) W h.ky (by rw [List.length_map]; omega) i (by rw [List.length_map]; exact hi)
  rw [← hk, show (kb L).length = n by rw [List.length_map, hn]] at hct
  rw [show (kb L).length = n by rw [List.length_map, hn]] at h
  refine hct.mono ?_
  rintro e w' ⟨a', c', he, hr, hu, ho⟩
  rw [show (kb L').length = n - 1 by rw [List.length_map, hl]] at he hr ho
  exact ⟨a', c', he, h.turnA hu hr ho⟩
theorem SS.delH (h : SS w sb n ka ha kc hc va (.slice ha (kh L).length hc) M (kh L) W) (hn : n = L.length) (hL : L.length ≤ 900) {i : Nat} (hi : i < L.length) {L' : KL} (hk : kh L' = (kh L).eraseIdx i) (hl : L'.length = n - 1) :
    Calls Tryz.prog 125 #[.slice ha n hc, .int .i64 i, .int .i64 ((i : Int) + 1)] W fun e w' => ∃ a' c', e = .returned (.slice a' (n - 1) c') ∧ SS w sb n ka ha kc hc va (.slice a' (n - 1) c') M (kh L') w' := by
  have hct := InHd.delete_any hcel 0 ha hc (kh L) W h.kd (by rw [List.length_map]; omega) i (by rw [List.length_map]; exact hi)
  rw [← hk, show (kh L).length = n by rw [List.length_map, hn]] at hct
  rw [show (kh L).length = n by rw [List.length_map, hn]] at h
  refine hct.mono ?_
  rintro e w' ⟨a', c', he, hr, hu, ho⟩
  rw [show (kh L').length = n - 1 by rw [List.length_map, hl]] at he hr ho
  exact ⟨a', c', he, h.turnH hu hr ho⟩
set_option maxRecDepth 100000 in
set_option maxHeartbeats 2000000 in
theorem soSet_new (h : SoAt w sb n ka ha kc hc L) (hs : KSort L) (hL : L.length ≤ 900) (b : UInt8) (x : Hd) (hg : kget L b = none) :
    Calls Tryz.prog 122 #[.pointer (some ⟨sb, 0, none⟩), .int .u8 b.toNat, hV x] w (SoEnd w sb ka ha (kput L b x)) := by
  have hB1 : Below w.heap.size w (w.alloc (.cells #[.int .i64 x.1, .int .u64 x.2] 77)) := (Below.refl _ _).alloc (Nat.le_refl _) _
  have hS := Lib.hid (h.search hs (by omega) b _ hB1)
  have hss := h.ss.below hB1
  have hbx := heap_alloc_new w (.cells #[.int .i64 x.1, .int .u64 x.2] 77)
  obtain ⟨_, _, _, _, hk1, hk2, hk3, hk4⟩ := h.cells
  have hoa : Hid (∀ q, q ∈ ob ka → q < w.heap.size) := Lib.hid fun q hq => (h.ky.lt q (ob_mem.1 hq)).2
  have hoh : Hid (∀ q, q ∈ ob ha → q < w.heap.size) := Lib.hid fun q hq => (h.kd.lt q (ob_mem.1 hq)).2
  obtain ⟨p1, p2, p3, p4⟩ := ks_ins hs hg (h := x)
  have hn := h.len
  rw [hg] at hS
  obtain ⟨i, hi⟩ : ∃ i, i = lowB (kb L) b := ⟨_, rfl⟩
  rw [← hi] at hS p1 p2 p4
  obtain ⟨L', hL'⟩ : ∃ L', L' = kput L b x := ⟨_, rfl⟩
  rw [← hL'] at p1 p2 p3 ⊢
  have hin : i ≤ n := by omega
  have hA1 := Lib.hid fun W vb vh H (hW : SS w sb n ka ha kc hc (.slice ka (kb L).length kc) vh (kb L) H W) (hv : W.heap[vb]? = some (.cells #[.int .u8 b.toNat] 5)) (hb : w.heap.size ≤ vb) => hW.insA hn hL p4 hv (fun q hq => by have := hoa.out q hq; omega) p1 (by omega)
  have hA2 := Lib.hid fun W vb va M (hW : SS w sb n ka ha kc hc va (.slice ha (kh L).length hc) M (kh L) W) (hv : W.heap[vb]? = some (.cells #[.int .i64 x.1, .int .u64 x.2] 77)) (hb : w.heap.size ≤ vb) => hW.insH hn hL p4 hv (fun q hq => by have := hoh.out q hq; omega) p2 (by omega)
  have hfin := Lib.hid fun W ka' ha' kc' hc' (hW : SS w sb n ka ha kc hc (.slice ka' (n + 1) kc') (.slice ha' (n + 1) hc') (kb L') (kh L') W) => hW.fin (by omega)
  obtain ⟨c0, c1, hq, hfr⟩ := hss.cells
  have z0 : (w.alloc (.cells #[.int .i64 x.1, .int .u64 x.2] 77)).cell? ⟨w.heap.size, 0, none⟩ = some (.int .i64 x.1) := by rw [cell_of_heap hbx]; rfl
  have z1 : (w.alloc (.cells #[.int .i64 x.1, .int .u64 x.2] 77)).cell? ⟨w.heap.size, 1, none⟩ = some (.int .u64 x.2) := by rw [cell_of_heap hbx]; rfl
  have zl := heap_lt hbx
  have hxb : w.heap.size ∉ ob ha := fun hq => by have := hoh.out _ hq; omega
  have hsz := Lib.hid hss.upd.size
  replace hss := Lib.hid hss
  replace hbx := Lib.hid hbx
  replace hxb := Lib.hid hxb
  replace hn := Lib.hid hn
  clear h hs hg hi hL' p1 p2 p3 p4 hoa hoh hB1 hfr
  go_enter Tryz.func122, Tryz.ntmps122
  go_upto_region 1 with fail
  generalize w.alloc (.cells #[.int .i64 x.1, .int .u64 x.2] 77) = W1 at *
  obtain ⟨xb, hxe⟩ : ∃ xb, xb = w.heap.size := ⟨_, rfl⟩
  rw [← hxe] at hbx z0 z1 zl hxb ⊢
  replace hxe := Lib.hid hxe
  go_wp2_with fail
  refine hS.out.mono ?_
  clear hS
  rintro e w1 ⟨rfl, rfl⟩
  go_upto_region 4 with fail
  refine wp_region_late [20, 23] (S := fun w' => w'.cell? ⟨sb, 0, none⟩ = some (.slice ka n kc) ∧ w'.cell? ⟨sb, 1, none⟩ = some (.slice ha n hc) ∧ w'.cell? ⟨xb, 0, none⟩ = some (.int .i64 x.1) ∧ w'.cell? ⟨xb, 1, none⟩ = some (.int .u64 x.2)) rfl ⟨c0, c1, z0, z1⟩ (fun hHeld => ?_)
  refine takeW 0 (by simp only [List.getElem?_toArray, List.getElem?_cons_zero]; rfl) ?_
  refine ⟨by kernel_rfl, by kernel_rfl, by kernel_rfl, ?_, fun _ _ _ h => h, Or.inl ⟨by rfl, ?_⟩, ?_⟩
  rotate_left 1
  · intro w hSw; clear hSw; go_simp; first | done | with_reducible rfl
  try simp only [Act.put, List.setIfInBounds_toArray, List.set_cons_zero, List.set_cons_succ]
  refine takeW 1 (by simp only [List.getElem?_toArray, List.getElem?_cons_succ, List.getElem?_cons_zero]; rfl) ?_
  refine ⟨by kernel_rfl, by kernel_rfl, by kernel_rfl, ?_, fun _ _ _ h => h, Or.inl ⟨by rfl, ?_⟩, ?_⟩
  rotate_left 1
  · intro w hSw; clear hSw; go_simp; first | done | with_reducible rfl
  try simp only [Act.put, List.setIfInBounds_toArray, List.set_cons_zero, List.set_cons_succ]
  refine takeW 2 (by simp only [List.getElem?_toArray, List.getElem?_cons_succ, List.getElem?_cons_zero]; rfl) ?_
  refine ⟨by kernel_rfl, by kernel_rfl, by kernel_rfl, ?_, fun _ _ _ h => h, Or.inl ⟨by rfl, ?_⟩, ?_⟩
  rotate_left 1
  · intro w hSw; clear hSw; go_simp; first | done | with_reducible rfl
  try simp only [Act.put, List.setIfInBounds_toArray, List.set_cons_zero, List.set_cons_succ]
  refine takeW 3 (by simp only [List.getElem?_toArray, List.getElem?_cons_succ, List.getElem?_cons_zero]; rfl) ?_
  refine ⟨by kernel_rfl, by kernel_rfl, by kernel_rfl, ?_, fun _ _ _ h => h, Or.inl ⟨by rfl, ?_⟩, ?_⟩
  rotate_left 1
  · intro w hSw; clear hSw; go_simp; first | done | with_reducible rfl
  try simp only [Act.put, List.setIfInBounds_toArray, List.set_cons_zero, List.set_cons_succ]
  refine takeW 4 (by simp only [List.getElem?_toArray, List.getElem?_cons_succ, List.getElem?_cons_zero]; rfl) ?_
  refine ⟨by kernel_rfl, by kernel_rfl, by kernel_rfl, ?_, fun _ _ _ h => h, Or.inl ⟨by rfl, ?_⟩, ?_⟩
  rotate_left 1
  · intro w hSw; clear hSw; go_simp; first | done | with_reducible rfl
  try simp only [Act.put, List.setIfInBounds_toArray, List.set_cons_zero, List.set_cons_succ]
  refine takeM 5 (by simp only [List.getElem?_toArray, List.getElem?_cons_succ, List.getElem?_cons_zero]; rfl) hHeld ?_
  refine ⟨by kernel_rfl, by kernel_rfl, by kernel_rfl, by kernel_rfl, by kernel_rfl, ?_, fun _ _ _ h => h, Or.inl ⟨by rfl, ?_⟩, ?_⟩
  rotate_left 1
  · intro w hSw; (try dsimp only at hSw); obtain ⟨i1, i2, i3, i4⟩ := hSw; go_simp; first | done | with_reducible rfl
  try simp only [Act.put, List.setIfInBounds_toArray, List.set_cons_zero, List.set_cons_succ]
  refine takeW 6 (by simp only [List.getElem?_toArray, List.getElem?_cons_succ, List.getElem?_cons_zero]; rfl) ?_
  refine ⟨by kernel_rfl, by kernel_rfl, by kernel_rfl, ?_, fun _ _ _ h => h, Or.inl ⟨by rfl, ?_⟩, ?_⟩
  rotate_left 1
  · intro w hSw; clear hSw; go_simp; first | done | with_reducible rfl
  try simp only [Act.put, List.setIfInBounds_toArray, List.set_cons_zero, List.set_cons_succ]
  refine takeW 7 (by simp only [List.getElem?_toArray, List.getElem?_cons_succ, List.getElem?_cons_zero]; rfl) ?_
  refine ⟨by kernel_rfl, by kernel_rfl, by kernel_rfl, ?_, fun _ _ _ h => h, Or.inl ⟨by rfl, ?_⟩, ?_⟩
  rotate_left 1
  · intro w hSw; clear hSw; go_simp; first | done | with_reducible rfl
  try simp only [Act.put, List.setIfInBounds_toArray, List.set_cons_zero, List.set_cons_succ]
  refine takeW 10 (by simp only [List.getElem?_toArray, List.getElem?_cons_succ, List.getElem?_cons_zero]; rfl) ?_
  refine ⟨by kernel_rfl, by kernel_rfl, by kernel_rfl, ?_, fun _ _ _ h => h, Or.inl ⟨by rfl, ?_⟩, ?_⟩
  rotate_left 1
  · intro w hSw; clear hSw; go_simp; first | done | with_reducible rfl
  try simp only [Act.put, List.setIfInBounds_toArray, List.set_cons_zero, List.set_cons_succ]
  refine takeW 11 (by simp only [List.getElem?_toArray, List.getElem?_cons_succ, List.getElem?_cons_zero]; rfl) ?_
  refine ⟨by kernel_rfl, by kernel_rfl, by kernel_rfl, ?_, fun _ _ _ h => h, Or.inl ⟨by rfl, ?_⟩, ?_⟩
  rotate_left 1
  · intro w hSw; clear hSw; go_simp; first | done | with_reducible rfl
  try simp only [Act.put, List.setIfInBounds_toArray, List.set_cons_zero, List.set_cons_succ]
  refine takeW 12 (by simp only [List.getElem?_toArray, List.getElem?_cons_succ, List.getElem?_cons_zero]; rfl) ?_
  refine ⟨by kernel_rfl, by kernel_rfl, by kernel_rfl, ?_, fun _ _ _ h => h, Or.inl ⟨by rfl, ?_⟩, ?_⟩
  rotate_left 1
  · intro w hSw; clear hSw; go_simp; first | done | with_reducible rfl
  try simp only [Act.put, List.setIfInBounds_toArray, List.set_cons_zero, List.set_cons_succ]
  refine takeM 13 (by simp only [List.getElem?_toArray, List.getElem?_cons_succ, List.getElem?_cons_zero]; rfl) hHeld ?_
  refine ⟨by kernel_rfl, by kernel_rfl, by kernel_rfl, by kernel_rfl, by kernel_rfl, ?_, fun _ _ _ h => h, Or.inl ⟨by rfl, ?_⟩, ?_⟩
  rotate_left 1
  · intro w hSw; (try dsimp only at hSw); obtain ⟨i1, i2, i3, i4⟩ := hSw; go_simp; first | done | with_reducible rfl
  try simp only [Act.put, List.setIfInBounds_toArray, List.set_cons_zero, List.set_cons_succ]
  refine takeW 14 (by simp only [List.getElem?_toArray, List.getElem?_cons_succ, List.getElem?_cons_zero]; rfl) ?_
  refine ⟨by kernel_rfl, by kernel_rfl, by kernel_rfl, ?_, fun _ _ _ h => h, Or.inl ⟨by rfl, ?_⟩, ?_⟩
  rotate_left 1
  · intro w hSw; clear hSw; go_simp; first | done | with_reducible rfl
  try simp only [Act.put, List.setIfInBounds_toArray, List.set_cons_zero, List.set_cons_succ]
  refine takeM 15 (by simp only [List.getElem?_toArray, List.getElem?_cons_succ, List.getElem?_cons_zero]; rfl) hHeld ?_
  refine ⟨by kernel_rfl, by kernel_rfl, by kernel_rfl, by kernel_rfl, by kernel_rfl, ?_, fun _ _ _ h => h, Or.inl ⟨by rfl, ?_⟩, ?_⟩
  rotate_left 1
  · intro w hSw; (try dsimp only at hSw); obtain ⟨i1, i2, i3, i4⟩ := hSw; go_simp; first | done | with_reducible rfl
  try simp only [Act.put, List.setIfInBounds_toArray, List.set_cons_zero, List.set_cons_succ]
  replace hss := Lib.hid (hss.out.below (Below.refl _ _).drew)
  replace hbx : Hid (W1.drew.heap[xb]? = some (.cells #[.int .i64 x.1, .int .u64 x.2] 77)) := hbx
  clear c0 c1 z0 z1 hq zl
  generalize W1.drew = Wc at *
  refine wpAnyM_ready (rs := [8, 16]) (by kernel_rfl) (by simp) ?_
  refine (AllReadyM.cons rfl (fun K hK => ?_) (AllReadyM.cons rfl (fun K hK => ?_) AllReadyM.nil))
  · go_simp
    have hb4 : Below Wc.heap.size Wc (Wc.alloc (.cells #[.int .u8 b.toNat] 5)) := (Below.refl _ _).alloc (Nat.le_refl _) _
    have gk := Lib.hid (heap_alloc_new Wc (.cells #[.int .u8 b.toNat] 5))
    have lk := Lib.hid hss.out.upd.size
    replace hbx := Lib.hid (Below.heap' hb4 hbx.out)
    replace hss := Lib.hid (hss.out.below hb4)
    clear hb4
    generalize Wc.alloc (.cells #[.int .u8 b.toNat] 5) = Wd1 at *
    generalize Wc.heap.size = bk at *
    have hS1 := And.intro hss.out.cells.1 (And.intro hss.out.cells.2.1 (box2 hbx.out))
    refine hK.out _ _ (fun _ _ => hS1) ?_
    clear hHeld hK K
    have hHeld := hS1
    clear hS1
    try simp only [Act.put, List.setIfInBounds_toArray, List.set_cons_zero, List.set_cons_succ]
    refine wpAnyM_ready (rs := [9, 16]) (by kernel_rfl) (by simp) ?_
    refine (AllReadyM.cons rfl (fun K hK => ?_) (AllReadyM.cons rfl (fun K hK => ?_) AllReadyM.nil))
    · go_simp
      go_at_call 126
      refine (hA1.out Wd1 bk _ _ hss.out gk.out lk.out).mono ?_
      rintro z Wd2 ⟨ka2, kc2, rfl, hss2, hkp⟩
      replace hbx := Lib.hid (hkp _ _ hbx.out)
      replace hss := Lib.hid hss2
      clear hss2 hkp gk lk
      have hS1 := And.intro hss.out.cells.1 (And.intro hss.out.cells.2.1 (box2 hbx.out))
      go_wp2_with fail
      refine hK.out _ _ (fun _ _ => hS1) ?_
      clear hHeld hK K
      have hHeld := hS1
      clear hS1
      try simp only [Act.put, List.setIfInBounds_toArray, List.set_cons_zero, List.set_cons_succ]
      refine readyM 16 (by kernel_rfl) (by simp only [List.getElem?_toArray, List.getElem?_cons_succ, List.getElem?_cons_zero]; rfl) ?_
      intro K hK
      go_simp
      have hb4 : Below Wd2.heap.size Wd2 (Wd2.alloc (.cells #[.int .i64 x.1, .int .u64 x.2] 77)) := (Below.refl _ _).alloc (Nat.le_refl _) _
      have gh := Lib.hid (heap_alloc_new Wd2 (.cells #[.int .i64 x.1, .int .u64 x.2] 77))
      have lh := Lib.hid hss.out.upd.size
      replace hbx := Lib.hid (Below.heap' hb4 hbx.out)
      replace hss := Lib.hid (hss.out.below hb4)
      clear hb4
      generalize Wd2.alloc (.cells #[.int .i64 x.1, .int .u64 x.2] 77) = Wd3 at *
      generalize Wd2.heap.size = bh at *
      have hS1 := And.intro hss.out.cells.1 (And.intro hss.out.cells.2.1 (box2 hbx.out))
      refine hK.out _ _ (fun _ _ => hS1) ?_
      clear hHeld hK K
      have hHeld := hS1
      clear hS1
      try simp only [Act.put, List.setIfInBounds_toArray, List.set_cons_zero, List.set_cons_succ]
      refine readyM 17 (by kernel_rfl) (by simp only [List.getElem?_toArray, List.getElem?_cons_succ, List.getElem?_cons_zero]; rfl) ?_
      intro K hK
      go_simp
      go_at_call 127
      refine (hA2.out Wd3 bh _ _ hss.out gh.out lh.out).mono ?_
      rintro z Wd4 ⟨ha2, hc2, rfl, hss2, hkp⟩
      replace hbx := Lib.hid (hkp _ _ hxb.out hbx.out)
      replace hss := Lib.hid hss2
      clear hss2 hkp gh lh
      have hS1 := And.intro hss.out.cells.1 (And.intro hss.out.cells.2.1 (box2 hbx.out))
      go_wp2_with fail
      refine hK.out _ _ (fun _ _ => hS1) ?_
      clear hHeld hK K
      have hHeld := hS1
      clear hS1
      try simp only [Act.put, List.setIfInBounds_toArray, List.set_cons_zero, List.set_cons_succ]
      refine takeW 18 (by simp only [List.getElem?_toArray, List.getElem?_cons_succ, List.getElem?_cons_zero]; rfl) ?_
      refine ⟨by kernel_rfl, by kernel_rfl, by kernel_rfl, ?_, fun _ _ _ h => h, Or.inl ⟨by rfl, ?_⟩, ?_⟩
      rotate_left 1
      · intro w hSw; clear hSw; go_simp; first | done | with_reducible rfl
      try simp only [Act.put, List.setIfInBounds_toArray, List.set_cons_zero, List.set_cons_succ]
      refine takeW 19 (by simp only [List.getElem?_toArray, List.getElem?_cons_succ, List.getElem?_cons_zero]; rfl) ?_
      refine ⟨by kernel_rfl, by kernel_rfl, by kernel_rfl, ?_, fun _ _ _ h => h, Or.inl ⟨by rfl, ?_⟩, ?_⟩
      rotate_left 1
      · intro w hSw; clear hSw; go_simp; first | done | with_reducible rfl
      try simp only [Act.put, List.setIfInBounds_toArray, List.set_cons_zero, List.set_cons_succ]
      refine readyM 20 (by kernel_rfl) (by simp only [List.getElem?_toArray, List.getElem?_cons_succ, List.getElem?_cons_zero]; rfl) ?_
      intro K hK
      obtain ⟨c0, c1, hq, hfr⟩ := hss.out.cells
      have hf0 := hfr 0
      have hf1 := hfr 1
      clear hfr
      go_simp
      go_wp2_with fail
      refine hK.out _ _ (fun h => by cases h) ?_
      clear hK K
      try simp only [Act.put, List.setIfInBounds_toArray, List.set_cons_zero, List.set_cons_succ]
      refine takeW 21 (by simp only [List.getElem?_toArray, List.getElem?_cons_succ, List.getElem?_cons_zero]; rfl) ?_
      refine ⟨by kernel_rfl, by kernel_rfl, by kernel_rfl, ?_, fun _ _ _ h => h, Or.inl ⟨by rfl, ?_⟩, ?_⟩
      rotate_left 1
      · intro w hSw; clear hSw; go_simp; first | done | with_reducible rfl
      try simp only [Act.put, List.setIfInBounds_toArray, List.set_cons_zero, List.set_cons_succ]
      refine takeW 22 (by simp only [List.getElem?_toArray, List.getElem?_cons_succ, List.getElem?_cons_zero]; rfl) ?_
      refine ⟨by kernel_rfl, by kernel_rfl, by kernel_rfl, ?_, fun _ _ _ h => h, Or.inl ⟨by rfl, ?_⟩, ?_⟩
      rotate_left 1
      · intro w hSw; clear hSw; go_simp; first | done | with_reducible rfl
      try simp only [Act.put, List.setIfInBounds_toArray, List.set_cons_zero, List.set_cons_succ]
      refine readyM 23 (by kernel_rfl) (by simp only [List.getElem?_toArray, List.getElem?_cons_succ, List.getElem?_cons_zero]; rfl) ?_
      intro K hK
      go_simp
      go_wp2_with fail
      refine hK.out _ _ (fun h => by cases h) ?_
      clear hK K
      try simp only [Act.put, List.setIfInBounds_toArray, List.set_cons_zero, List.set_cons_succ]
      refine wpAnyM_done (by kernel_rfl) ?_ _
      try simp only [Exit.then]
      go_wp2_with fail
      go_end0
      exact hfin.out _ _ _ _ _ hss.out
    · go_simp
      have hb4 : Below Wd1.heap.size Wd1 (Wd1.alloc (.cells #[.int .i64 x.1, .int .u64 x.2] 77)) := (Below.refl _ _).alloc (Nat.le_refl _) _
      have gh := Lib.hid (heap_alloc_new Wd1 (.cells #[.int .i64 x.1, .int .u64 x.2] 77))
      have lh := Lib.hid hss.out.upd.size
      replace gk := Lib.hid (Below.heap' hb4 gk.out)
      replace hbx := Lib.hid (Below.heap' hb4 hbx.out)
      replace hss := Lib.hid (hss.out.below hb4)
      clear hb4
      generalize Wd1.alloc (.cells #[.int .i64 x.1, .int .u64 x.2] 77) = Wd5 at *
      generalize Wd1.heap.size = bh at *
      have hS1 := And.intro hss.out.cells.1 (And.intro hss.out.cells.2.1 (box2 hbx.out))
      refine hK.out _ _ (fun _ _ => hS1) ?_
      clear hHeld hK K
      have hHeld := hS1
      clear hS1
      try simp only [Act.put, List.setIfInBounds_toArray, List.set_cons_zero, List.set_cons_succ]
      refine readyM 9 (by kernel_rfl) (by simp only [List.getElem?_toArray, List.getElem?_cons_succ, List.getElem?_cons_zero]; rfl) ?_
      intro K hK
      go_simp
      go_at_call 126
      refine (hA1.out Wd5 bk _ _ hss.out gk.out lk.out).mono ?_
      rintro z Wd6 ⟨ka2, kc2, rfl, hss2, hkp⟩
      replace hbx := Lib.hid (hkp _ _ hbx.out)
      replace gh := Lib.hid (hkp _ _ gh.out)
      replace hss := Lib.hid hss2
      clear hss2 hkp gk lk
      have hS1 := And.intro hss.out.cells.1 (And.intro hss.out.cells.2.1 (box2 hbx.out))
      go_wp2_with fail
      refine hK.out _ _ (fun _ _ => hS1) ?_
      clear hHeld hK K
      have hHeld := hS1
      clear hS1
      try simp only [Act.put, List.setIfInBounds_toArray, List.set_cons_zero, List.set_cons_succ]
      refine readyM 17 (by kernel_rfl) (by simp only [List.getElem?_toArray, List.getElem?_cons_succ, List.getElem?_cons_zero]; rfl) ?_
      intro K hK
      go_simp
      go_at_call 127
      refine (hA2.out Wd6 bh _ _ hss.out gh.out lh.out).mono ?_
      rintro z Wd7 ⟨ha2, hc2, rfl, hss2, hkp⟩
      replace hbx := Lib.hid (hkp _ _ hxb.out hbx.out)
      replace hss := Lib.hid hss2
      clear hss2 hkp gh lh
      have hS1 := And.intro hss.out.cells.1 (And.intro hss.out.cells.2.1 (box2 hbx.out))
      go_wp2_with fail
      refine hK.out _ _ (fun _ _ => hS1) ?_
      clear hHeld hK K
      have hHeld := hS1
      clear hS1
      try simp only [Act.put, List.setIfInBounds_toArray, List.set_cons_zero, List.set_cons_succ]
      refine takeW 18 (by simp only [List.getElem?_toArray, List.getElem?_cons_succ, List.getElem?_cons_zero]; rfl) ?_
      refine ⟨by kernel_rfl, by kernel_rfl, by kernel_rfl, ?_, fun _ _ _ h => h, Or.inl ⟨by rfl, ?_⟩, ?_⟩
      rotate_left 1
      · intro w hSw; clear hSw; go_simp; first | done | with_reducible rfl
      try simp only [Act.put, List.setIfInBounds_toArray, List.set_cons_zero, List.set_cons_succ]
      refine takeW 19 (by simp only [List.getElem?_toArray, List.getElem?_cons_succ, List.getElem?_cons_zero]; rfl) ?_
      refine ⟨by kernel_rfl, by kernel_rfl, by kernel_rfl, ?_, fun _ _ _ h => h, Or.inl ⟨by rfl, ?_⟩, ?_⟩
      rotate_left 1
      · intro w hSw; clear hSw; go_simp; first | done | with_reducible rfl
      try simp only [Act.put, List.setIfInBounds_toArray, List.set_cons_zero, List.set_cons_succ]
      refine readyM 20 (by kernel_rfl) (by simp only [List.getElem?_toArray, List.getElem?_cons_succ, List.getElem?_cons_zero]; rfl) ?_
      intro K hK
      obtain ⟨c0, c1, hq, hfr⟩ := hss.out.cells
      have hf0 := hfr 0
      have hf1 := hfr 1
      clear hfr
      go_simp
      go_wp2_with fail
      refine hK.out _ _ (fun h => by cases h) ?_
      clear hK K
      try simp only [Act.put, List.setIfInBounds_toArray, List.set_cons_zero, List.set_cons_succ]
      refine takeW 21 (by simp only [List.getElem?_toArray, List.getElem?_cons_succ, List.getElem?_cons_zero]; rfl) ?_
      refine ⟨by kernel_rfl, by kernel_rfl, by kernel_rfl, ?_, fun _ _ _ h => h, Or.inl ⟨by rfl, ?_⟩, ?_⟩
      rotate_left 1
      · intro w hSw; clear hSw; go_simp; first | done | with_reducible rfl
      try simp only [Act.put, List.setIfInBounds_toArray, List.set_cons_zero, List.set_cons_succ]
      refine takeW 22 (by simp only [List.getElem?_toArray, List.getElem?_cons_succ, List.getElem?_cons_zero]; rfl) ?_
      refine ⟨by kernel_rfl, by kernel_rfl, by kernel_rfl, ?_, fun _ _ _ h => h, Or.inl ⟨by rfl, ?_⟩, ?_⟩
      rotate_left 1
      · intro w hSw; clear hSw; go_simp; first | done | with_reducible rfl
      try simp only [Act.put, List.setIfInBounds_toArray, List.set_cons_zero, List.set_cons_succ]
      refine readyM 23 (by kernel_rfl) (by simp only [List.getElem?_toArray, List.getElem?_cons_succ, List.getElem?_cons_zero]; rfl) ?_
      intro K hK
      go_simp
      go_wp2_with fail
      refine hK.out _ _ (fun h => by cases h) ?_
      clear hK K
      try simp only [Act.put, List.setIfInBounds_toArray, List.set_cons_zero, List.set_cons_succ]
      refine wpAnyM_done (by kernel_rfl) ?_ _
      try simp only [Exit.then]
      go_wp2_with fail
      go_end0
      exact hfin.out _ _ _ _ _ hss.out
  · go_simp
    have hb4 : Below Wc.heap.size Wc (Wc.alloc (.cells #[.int .i64 x.1, .int .u64 x.2] 77)) := (Below.refl _ _).alloc (Nat.le_refl _) _
    have gh := Lib.hid (heap_alloc_new Wc (.cells #[.int .i64 x.1, .int .u64 x.2] 77))
    have lh := Lib.hid hss.out.upd.size
    replace hbx := Lib.hid (Below.heap' hb4 hbx.out)
    replace hss := Lib.hid (hss.out.below hb4)
    clear hb4
    generalize Wc.alloc (.cells #[.int .i64 x.1, .int .u64 x.2] 77) = Wd8 at *
    generalize Wc.heap.size = bh at *
    have hS1 := And.intro hss.out.cells.1 (And.intro hss.out.cells.2.1 (box2 hbx.out))
    refine hK.out _ _ (fun _ _ => hS1) ?_
    clear hHeld hK K
    have hHeld := hS1
    clear hS1
    try simp only [Act.put, List.setIfInBounds_toArray, List.set_cons_zero, List.set_cons_succ]
    refine readyM 8 (by kernel_rfl) (by simp only [List.getElem?_toArray, List.getElem?_cons_succ, List.getElem?_cons_zero]; rfl) ?_
    intro K hK
    go_simp
    have hb4 : Below Wd8.heap.size Wd8 (Wd8.alloc (.cells #[.int .u8 b.toNat] 5)) := (Below.refl _ _).alloc (Nat.le_refl _) _
    have gk := Lib.hid (heap_alloc_new Wd8 (.cells #[.int .u8 b.toNat] 5))
    have lk := Lib.hid hss.out.upd.size
    replace gh := Lib.hid (Below.heap' hb4 gh.out)
    replace hbx := Lib.hid (Below.heap' hb4 hbx.out)
    replace hss := Lib.hid (hss.out.below hb4)
    clear hb4
    generalize Wd8.alloc (.cells #[.int .u8 b.toNat] 5) = Wd9 at *
    generalize Wd8.heap.size = bk at *
    have hS1 := And.intro hss.out.cells.1 (And.intro hss.out.cells.2.1 (box2 hbx.out))
    refine hK.out _ _ (fun _ _ => hS1) ?_
    clear hHeld hK K
    have hHeld := hS1
    clear hS1
    try simp only [Act.put, List.setIfInBounds_toArray, List.set_cons_zero, List.set_cons_succ]
    refine readyM 9 (by kernel_rfl) (by simp only [List.getElem?_toArray, List.getElem?_cons_succ, List.getElem?_cons_zero]; rfl) ?_
    intro K hK
    go_simp
    go_at_call 126
    refine (hA1.out Wd9 bk _ _ hss.out gk.out lk.out).mono ?_
    rintro z Wd10 ⟨ka2, kc2, rfl, hss2, hkp⟩
    replace hbx := Lib.hid (hkp _ _ hbx.out)
    replace gh := Lib.hid (hkp _ _ gh.out)
    replace hss := Lib.hid hss2
    clear hss2 hkp gk lk
    have hS1 := And.intro hss.out.cells.1 (And.intro hss.out.cells.2.1 (box2 hbx.out))
    go_wp2_with fail
    refine hK.out _ _ (fun _ _ => hS1) ?_
    clear hHeld hK K
    have hHeld := hS1
    clear hS1
    try simp only [Act.put, List.setIfInBounds_toArray, List.set_cons_zero, List.set_cons_succ]
    refine readyM 17 (by kernel_rfl) (by simp only [List.getElem?_toArray, List.getElem?_cons_succ, List.getElem?_cons_zero]; rfl) ?_
    intro K hK
    go_simp
    go_at_call 127
    refine (hA2.out Wd10 bh _ _ hss.out gh.out lh.out).mono ?_
    rintro z Wd11 ⟨ha2, hc2, rfl, hss2, hkp⟩
    replace hbx := Lib.hid (hkp _ _ hxb.out hbx.out)
    replace hss := Lib.hid hss2
    clear hss2 hkp gh lh
    have hS1 := And.intro hss.out.cells.1 (And.intro hss.out.cells.2.1 (box2 hbx.out))
    go_wp2_with fail
    refine hK.out _ _ (fun _ _ => hS1) ?_
    clear hHeld hK K
    have hHeld := hS1
    clear hS1
    try simp only [Act.put, List.setIfInBounds_toArray, List.set_cons_zero, List.set_cons_succ]
    refine takeW 18 (by simp only [List.getElem?_toArray, List.getElem?_cons_succ, List.getElem?_cons_zero]; rfl) ?_
    refine ⟨by kernel_rfl, by kernel_rfl, by kernel_rfl, ?_, fun _ _ _ h => h, Or.inl ⟨by rfl, ?_⟩, ?_⟩
    rotate_left 1
    · intro w hSw; clear hSw; go_simp; first | done | with_reducible rfl
    try simp only [Act.put, List.setIfInBounds_toArray, List.set_cons_zero, List.set_cons_succ]
    refine takeW 19 (by simp only [List.getElem?_toArray, List.getElem?_cons_succ, List.getElem?_cons_zero]; rfl) ?_
    refine ⟨by kernel_rfl, by kernel_rfl, by kernel_rfl, ?_, fun _ _ _ h => h, Or.inl ⟨by rfl, ?_⟩, ?_⟩
    rotate_left 1
    · intro w hSw; clear hSw; go_simp; first | done | with_reducible rfl
    try simp only [Act.put, List.setIfInBounds_toArray, List.set_cons_zero, List.set_cons_succ]
    refine readyM 20 (by kernel_rfl) (by simp only [List.getElem?_toArray, List.getElem?_cons_succ, List.getElem?_cons_zero]; rfl) ?_
    intro K hK
    obtain ⟨c0, c1, hq, hfr⟩ := hss.out.cells
    have hf0 := hfr 0
    have hf1 := hfr 1
    clear hfr
    go_simp
    go_wp2_with fail
    refine hK.out _ _ (fun h => by cases h) ?_
    clear hK K
    try simp only [Act.put, List.setIfInBounds_toArray, List.set_cons_zero, List.set_cons_succ]
    refine takeW 21 (by simp only [List.getElem?_toArray, List.getElem?_cons_succ, List.getElem?_cons_zero]; rfl) ?_
    refine ⟨by kernel_rfl, by kernel_rfl, by kernel_rfl, ?_, fun _ _ _ h => h, Or.inl ⟨by rfl, ?_⟩, ?_⟩
    rotate_left 1
    · intro w hSw; clear hSw; go_simp; first | done | with_reducible rfl
    try simp only [Act.put, List.setIfInBounds_toArray, List.set_cons_zero, List.set_cons_succ]
    refine takeW 22 (by simp only [List.getElem?_toArray, List.getElem?_cons_succ, List.getElem?_cons_zero]; rfl) ?_
    refine ⟨by kernel_rfl, by kernel_rfl, by kernel_rfl, ?_, fun _ _ _ h => h, Or.inl ⟨by rfl, ?_⟩, ?_⟩
    rotate_left 1
    · intro w hSw; clear hSw; go_simp; first | done | with_reducible rfl
    try simp only [Act.put, List.setIfInBounds_toArray, List.set_cons_zero, List.set_cons_succ]
    refine readyM 23 (by kernel_rfl) (by simp only [List.getElem?_toArray, List.getElem?_cons_succ, List.getElem?_cons_zero]; rfl) ?_
    intro K hK
    go_simp
    go_wp2_with fail
    refine hK.out _ _ (fun h => by cases h) ?_
    clear hK K
    try simp only [Act.put, List.setIfInBounds_toArray, List.set_cons_zero, List.set_cons_succ]
    refine wpAnyM_done (by kernel_rfl) ?_ _
    try simp only [Exit.then]
    go_wp2_with fail
    go_end0
    exact hfin.out _ _ _ _ _ hss.out
theorem SoAt.same (h : SoAt w sb n ka ha kc hc L) : SoEnd w sb ka ha L (.returned (.tuple #[])) w := ⟨rfl, n, ka, ha, kc, hc, h, Upd.refl _ _, fun _ hq => .inl hq⟩
set_option maxRecDepth 100000 in
set_option maxHeartbeats 2000000 in
theorem soDrop_any (h : SoAt w sb n ka ha kc hc L) (hs : KSort L) (hL : L.length ≤ 900) (b : UInt8) :
    Calls Tryz.prog 119 #[.pointer (some ⟨sb, 0, none⟩), .int .u8 b.toNat] w (SoEnd w sb ka ha (kdel L b)) := by
  have hS := Lib.hid (h.search hs (by omega) b _ (Below.refl _ _))
  obtain ⟨c0, c1, hq, _, hk1, hk2, hk3, hk4⟩ := h.cells
  cases hg : kget L b with
  | none =>
    rw [hg] at hS
    rw [kdel_none hg]
    have hfin := Lib.hid h.same
    clear h hs hg
    go_enter Tryz.func119, Tryz.ntmps119
    go_wp2_with fail
    refine hS.out.mono ?_
    clear hS
    rintro e w1 ⟨rfl, rfl⟩
    go_wp2_with fail
    go_end0
    exact hfin.out
  | some g =>
    have hss := h.ss
    obtain ⟨p1, p2, p3, p4⟩ := ks_era hs hg
    have hn := h.len
    rw [hg] at hS
    obtain ⟨i, hi⟩ : ∃ i, i = lowB (kb L) b := ⟨_, rfl⟩
    rw [← hi] at hS p1 p2 p4
    obtain ⟨L', hL'⟩ : ∃ L', L' = kdel L b := ⟨_, rfl⟩
    rw [← hL'] at p1 p2 p3 ⊢
    have hw1 : IntKind.i64.wrap ((i : Int) + 1) = (i : Int) + 1 := IntWalk.i64_in _ (by omega)
    have hA1 := Lib.hid fun W vh H (hW : SS w sb n ka ha kc hc (.slice ka (kb L).length kc) vh (kb L) H W) => hW.delA hn hL p4 p1 (by omega)
    have hA2 := Lib.hid fun W va M (hW : SS w sb n ka ha kc hc va (.slice ha (kh L).length hc) M (kh L) W) => hW.delH hn hL p4 p2 (by omega)
    have hfin := Lib.hid fun W ka' ha' kc' hc' (hW : SS w sb n ka ha kc hc (.slice ka' (n - 1) kc') (.slice ha' (n - 1) hc') (kb L') (kh L') W) => hW.fin (by omega)
    replace hss := Lib.hid hss
    replace hn := Lib.hid hn
    clear h hs hg hi hL' p1 p2 p3 p4
    go_enter Tryz.func119, Tryz.ntmps119
    go_wp2_with fail
    refine hS.out.mono ?_
    clear hS
    rintro e w1 ⟨rfl, rfl⟩
    go_upto_region 2 with fail
    refine wp_region_late [20, 23] (S := fun w' => w'.cell? ⟨sb, 0, none⟩ = some (.slice ka n kc) ∧ w'.cell? ⟨sb, 1, none⟩ = some (.slice ha n hc)) rfl ⟨c0, c1⟩ (fun hHeld => ?_)
    refine takeW 0 (by simp only [List.getElem?_toArray, List.getElem?_cons_zero]; rfl) ?_
    refine ⟨by kernel_rfl, by kernel_rfl, by kernel_rfl, ?_, fun _ _ _ h => h, Or.inl ⟨by rfl, ?_⟩, ?_⟩
    rotate_left 1
    · intro w hSw; clear hSw; go_simp; first | done | with_reducible rfl
    try simp only [Act.put, List.setIfInBounds_toArray, List.set_cons_zero, List.set_cons_succ]
    refine takeW 1 (by simp only [List.getElem?_toArray, List.getElem?_cons_succ, List.getElem?_cons_zero]; rfl) ?_
    refine ⟨by kernel_rfl, by kernel_rfl, by kernel_rfl, ?_, fun _ _ _ h => h, Or.inl ⟨by rfl, ?_⟩, ?_⟩
    rotate_left 1
    · intro w hSw; clear hSw; go_simp; first | done | with_reducible rfl
    try simp only [Act.put, List.setIfInBounds_toArray, List.set_cons_zero, List.set_cons_succ]
    refine takeW 2 (by simp only [List.getElem?_toArray, List.getElem?_cons_succ, List.getElem?_cons_zero]; rfl) ?_
    refine ⟨by kernel_rfl, by kernel_rfl, by kernel_rfl, ?_, fun _ _ _ h => h, Or.inl ⟨by rfl, ?_⟩, ?_⟩
    rotate_left 1
    · intro w hSw; clear hSw; go_simp; first | done | with_reducible rfl
    try simp only [Act.put, List.setIfInBounds_toArray, List.set_cons_zero, List.set_cons_succ]
    refine takeW 3 (by simp only [List.getElem?_toArray, List.getElem?_cons_succ, List.getElem?_cons_zero]; rfl) ?_
    refine ⟨by kernel_rfl, by kernel_rfl, by kernel_rfl, ?_, fun _ _ _ h => h, Or.inl ⟨by rfl, ?_⟩, ?_⟩
    rotate_left 1
    · intro w hSw; clear hSw; go_simp; first | done | with_reducible rfl
    try simp only [Act.put, List.setIfInBounds_toArray, List.set_cons_zero, List.set_cons_succ]
    refine takeW 4 (by simp only [List.getElem?_toArray, List.getElem?_cons_succ, List.getElem?_cons_zero]; rfl) ?_
    refine ⟨by kernel_rfl, by kernel_rfl, by kernel_rfl, ?_, fun _ _ _ h => h, Or.inl ⟨by rfl, ?_⟩, ?_⟩
    rotate_left 1
    · intro w hSw; clear hSw; go_simp; first | done | with_reducible rfl
    try simp only [Act.put, List.setIfInBounds_toArray, List.set_cons_zero, List.set_cons_succ]
    refine takeM 5 (by simp only [List.getElem?_toArray, List.getElem?_cons_succ, List.getElem?_cons_zero]; rfl) hHeld ?_
    refine ⟨by kernel_rfl, by kernel_rfl, by kernel_rfl, by kernel_rfl, by kernel_rfl, ?_, fun _ _ _ h => h, Or.inl ⟨by rfl, ?_⟩, ?_⟩
    rotate_left 1
    · intro w hSw; (try dsimp only at hSw); obtain ⟨i1, i2⟩ := hSw; go_simp; first | done | with_reducible rfl
    try simp only [Act.put, List.setIfInBounds_toArray, List.set_cons_zero, List.set_cons_succ]
    refine takeW 6 (by simp only [List.getElem?_toArray, List.getElem?_cons_succ, List.getElem?_cons_zero]; rfl) ?_
    refine ⟨by kernel_rfl, by kernel_rfl, by kernel_rfl, ?_, fun _ _ _ h => h, Or.inl ⟨by rfl, ?_⟩, ?_⟩
    rotate_left 1
    · intro w hSw; clear hSw; go_simp; first | done | with_reducible rfl
    try simp only [Act.put, List.setIfInBounds_toArray, List.set_cons_zero, List.set_cons_succ]
    refine takeW 7 (by simp only [List.getElem?_toArray, List.getElem?_cons_succ, List.getElem?_cons_zero]; rfl) ?_
    refine ⟨by kernel_rfl, by kernel_rfl, by kernel_rfl, ?_, fun _ _ _ h => h, Or.inl ⟨by rfl, ?_⟩, ?_⟩
    rotate_left 1
    · intro w hSw; clear hSw; go_simp; first | done | with_reducible rfl
    try simp only [Act.put, List.setIfInBounds_toArray, List.set_cons_zero, List.set_cons_succ]
    refine takeW 8 (by simp only [List.getElem?_toArray, List.getElem?_cons_succ, List.getElem?_cons_zero]; rfl) ?_
    refine ⟨by kernel_rfl, by kernel_rfl, by kernel_rfl, ?_, fun _ _ _ h => h, Or.inl ⟨by rfl, ?_⟩, ?_⟩
    rotate_left 1
    · intro w hSw; clear hSw; go_simp; first | done | with_reducible rfl
    try simp only [Act.put, List.setIfInBounds_toArray, List.set_cons_zero, List.set_cons_succ]
    refine takeW 10 (by simp only [List.getElem?_toArray, List.getElem?_cons_succ, List.getElem?_cons_zero]; rfl) ?_
    refine ⟨by kernel_rfl, by kernel_rfl, by kernel_rfl, ?_, fun _ _ _ h => h, Or.inl ⟨by rfl, ?_⟩, ?_⟩
    rotate_left 1
    · intro w hSw; clear hSw; go_simp; first | done | with_reducible rfl
    try simp only [Act.put, List.setIfInBounds_toArray, List.set_cons_zero, List.set_cons_succ]
    refine takeW 11 (by simp only [List.getElem?_toArray, List.getElem?_cons_succ, List.getElem?_cons_zero]; rfl) ?_
    refine ⟨by kernel_rfl, by kernel_rfl, by kernel_rfl, ?_, fun _ _ _ h => h, Or.inl ⟨by rfl, ?_⟩, ?_⟩
    rotate_left 1
    · intro w hSw; clear hSw; go_simp; first | done | with_reducible rfl
    try simp only [Act.put, List.setIfInBounds_toArray, List.set_cons_zero, List.set_cons_succ]
    refine takeW 12 (by simp only [List.getElem?_toArray, List.getElem?_cons_succ, List.getElem?_cons_zero]; rfl) ?_
    refine ⟨by kernel_rfl, by kernel_rfl, by kernel_rfl, ?_, fun _ _ _ h => h, Or.inl ⟨by rfl, ?_⟩, ?_⟩
    rotate_left 1
    · intro w hSw; clear hSw; go_simp; first | done | with_reducible rfl
    try simp only [Act.put, List.setIfInBounds_toArray, List.set_cons_zero, List.set_cons_succ]
    refine takeM 13 (by simp only [List.getElem?_toArray, List.getElem?_cons_succ, List.getElem?_cons_zero]; rfl) hHeld ?_
    refine ⟨by kernel_rfl, by kernel_rfl, by kernel_rfl, by kernel_rfl, by kernel_rfl, ?_, fun _ _ _ h => h, Or.inl ⟨by rfl, ?_⟩, ?_⟩
    rotate_left 1
    · intro w hSw; (try dsimp only at hSw); obtain ⟨i1, i2⟩ := hSw; go_simp; first | done | with_reducible rfl
    try simp only [Act.put, List.setIfInBounds_toArray, List.set_cons_zero, List.set_cons_succ]
    refine takeW 14 (by simp only [List.getElem?_toArray, List.getElem?_cons_succ, List.getElem?_cons_zero]; rfl) ?_
    refine ⟨by kernel_rfl, by kernel_rfl, by kernel_rfl, ?_, fun _ _ _ h => h, Or.inl ⟨by rfl, ?_⟩, ?_⟩
    rotate_left 1
    · intro w hSw; clear hSw; go_simp; first | done | with_reducible rfl
    try simp only [Act.put, List.setIfInBounds_toArray, List.set_cons_zero, List.set_cons_succ]
    refine takeW 15 (by simp only [List.getElem?_toArray, List.getElem?_cons_succ, List.getElem?_cons_zero]; rfl) ?_
    refine ⟨by kernel_rfl, by kernel_rfl, by kernel_rfl, ?_, fun _ _ _ h => h, Or.inl ⟨by rfl, ?_⟩, ?_⟩
    rotate_left 1
    · intro w hSw; clear hSw; go_simp; first | done | with_reducible rfl
    try simp only [Act.put, List.setIfInBounds_toArray, List.set_cons_zero, List.set_cons_succ]
    refine takeW 16 (by simp only [List.getElem?_toArray, List.getElem?_cons_succ, List.getElem?_cons_zero]; rfl) ?_
    refine ⟨by kernel_rfl, by kernel_rfl, by kernel_rfl, ?_, fun _ _ _ h => h, Or.inl ⟨by rfl, ?_⟩, ?_⟩
    rotate_left 1
    · intro w hSw; clear hSw; go_simp; first | done | with_reducible rfl
    try simp only [Act.put, List.setIfInBounds_toArray, List.set_cons_zero, List.set_cons_succ]
    replace hss := Lib.hid (hss.out.below (Below.refl _ _).drew)
    clear c0 c1 hq
    generalize w.drew = Wc at *
    refine readyM 9 (by kernel_rfl) (by simp only [List.getElem?_toArray, List.getElem?_cons_succ, List.getElem?_cons_zero]; rfl) ?_
    intro K hK
    go_simp
    go_at_call 124
    refine (hA1.out Wc _ _ hss.out).mono ?_
    rintro z Wd1 ⟨ka2, kc2, rfl, hss2⟩
    replace hss := Lib.hid hss2
    clear hss2
    have hS1 := And.intro hss.out.cells.1 hss.out.cells.2.1
    go_wp2_with fail
    refine hK.out _ _ (fun _ _ => hS1) ?_
    clear hHeld hK K
    have hHeld := hS1
    clear hS1
    try simp only [Act.put, List.setIfInBounds_toArray, List.set_cons_zero, List.set_cons_succ]
    refine readyM 17 (by kernel_rfl) (by simp only [List.getElem?_toArray, List.getElem?_cons_succ, List.getElem?_cons_zero]; rfl) ?_
    intro K hK
    go_simp
    go_at_call 125
    refine (hA2.out Wd1 _ _ hss.out).mono ?_
    rintro z Wd2 ⟨ha2, hc2, rfl, hss2⟩
    replace hss := Lib.hid hss2
    clear hss2
    have hS1 := And.intro hss.out.cells.1 hss.out.cells.2.1
    go_wp2_with fail
    refine hK.out _ _ (fun _ _ => hS1) ?_
    clear hHeld hK K
    have hHeld := hS1
    clear hS1
    try simp only [Act.put, List.setIfInBounds_toArray, List.set_cons_zero, List.set_cons_succ]
    refine takeW 18 (by simp only [List.getElem?_toArray, List.getElem?_cons_succ, List.getElem?_cons_zero]; rfl) ?_
    refine ⟨by kernel_rfl, by kernel_rfl, by kernel_rfl, ?_, fun _ _ _ h => h, Or.inl ⟨by rfl, ?_⟩, ?_⟩
    rotate_left 1
    · intro w hSw; clear hSw; go_simp; first | done | with_reducible rfl
    try simp only [Act.put, List.setIfInBounds_toArray, List.set_cons_zero, List.set_cons_succ]
    refine takeW 19 (by simp only [List.getElem?_toArray, List.getElem?_cons_succ, List.getElem?_cons_zero]; rfl) ?_
    refine ⟨by kernel_rfl, by kernel_rfl, by kernel_rfl, ?_, fun _ _ _ h => h, Or.inl ⟨by rfl, ?_⟩, ?_⟩
    rotate_left 1
    · intro w hSw; clear hSw; go_simp; first | done | with_reducible rfl
    try simp only [Act.put, List.setIfInBounds_toArray, List.set_cons_zero, List.set_cons_succ]
    refine readyM 20 (by kernel_rfl) (by simp only [List.getElem?_toArray, List.getElem?_cons_succ, List.getElem?_cons_zero]; rfl) ?_
    intro K hK
    obtain ⟨c0, c1, hq, hfr⟩ := hss.out.cells
    have hf0 := hfr 0
    have hf1 := hfr 1
    clear hfr
    go_simp
    go_wp2_with fail
    refine hK.out _ _ (fun h => by cases h) ?_
    clear hK K
    try simp only [Act.put, List.setIfInBounds_toArray, List.set_cons_zero, List.set_cons_succ]
    refine takeW 21 (by simp only [List.getElem?_toArray, List.getElem?_cons_succ, List.getElem?_cons_zero]; rfl) ?_
    refine ⟨by kernel_rfl, by kernel_rfl, by kernel_rfl, ?_, fun _ _ _ h => h, Or.inl ⟨by rfl, ?_⟩, ?_⟩
    rotate_left 1
    · intro w hSw; clear hSw; go_simp; first | done | with_reducible rfl
    try simp only [Act.put, List.setIfInBounds_toArray, List.set_cons_zero, List.set_cons_succ]
    refine takeW 22 (by simp only [List.getElem?_toArray, List.getElem?_cons_succ, List.getElem?_cons_zero]; rfl) ?_
    refine ⟨by kernel_rfl, by kernel_rfl, by kernel_rfl, ?_, fun _ _ _ h => h, Or.inl ⟨by rfl, ?_⟩, ?_⟩
    rotate_left 1
    · intro w hSw; clear hSw; go_simp; first | done | with_reducible rfl
    try simp only [Act.put, List.setIfInBounds_toArray, List.set_cons_zero, List.set_cons_succ]
    refine readyM 23 (by kernel_rfl) (by simp only [List.getElem?_toArray, List.getElem?_cons_succ, List.getElem?_cons_zero]; rfl) ?_
    intro K hK
    go_simp
    go_wp2_with fail
    refine hK.out _ _ (fun h => by cases h) ?_
    clear hK K
    try simp only [Act.put, List.setIfInBounds_toArray, List.set_cons_zero, List.set_cons_succ]
    refine wpAnyM_done (by kernel_rfl) ?_ _
    try simp only [Exit.then]
    go_wp2_with fail
    go_end0
    exact hfin.out _ _ _ _ _ hss.out
end
end Go.Proofs.YtmhlokomlngdmaaGreat
