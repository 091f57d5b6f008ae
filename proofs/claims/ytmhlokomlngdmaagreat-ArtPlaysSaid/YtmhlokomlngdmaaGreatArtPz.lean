/- The document's tree of layer 12: Put, Delete, Drop. The law ArtPlays: a pool's size by any number. -/
import Derived.Test.YtmhlokomlngdmaaGreatArtMp
import Derived.Test.YtmhlokomlngdmaaGreatHeldG
namespace Go.Proofs.YtmhlokomlngdmaaGreat
open Go.RowKit
/-- The document's tree: its list, its size, how many slots others have, whether it was dropped. -/
structure DT (w : World) (d : Nat) (a : Option Addr) (c : Nat) (L : Cont) (size oth : Nat) (gone : Bool) : Prop where
  blk : w.heap[d]? = some (.cells #[.slice a L.length c, .int .i64 size, .int .i64 oth, .bool gone] 39)
  at_ : At w 2 pcel a c L
  len : L.length ≤ 1000
  ksz : ∀ x : Str × Str, x ∈ L → x.1.size ≤ maxLen
theorem DT.below {w w' : World} {d : Nat} {a : Option Addr} {c : Nat} {L : Cont} {size oth : Nat} {gone : Bool} (h : DT w d a c L size oth gone) (hb : Below w.heap.size w w') : DT w' d a c L size oth gone := ⟨Below.heap' hb h.blk, h.at_.below hb, h.len, h.ksz⟩
theorem cwith_len (L : Cont) (key v : Str) : (cwith L key v).length ≤ L.length + 1 := by
  unfold cwith
  rw [List.length_append, List.length_singleton]
  have : (cdel L key).length ≤ L.length := List.length_filter_le _ _
  omega
theorem cwith_ksz {L : Cont} {key v : Str} (h : ∀ x : Str × Str, x ∈ L → x.1.size ≤ maxLen) (hk : key.size ≤ maxLen) : ∀ x : Str × Str, x ∈ cwith L key v → x.1.size ≤ maxLen := fun x hx => by
  unfold cwith at hx
  rcases List.mem_append.1 hx with h1 | h1
  · exact h x (List.mem_filter.1 h1).1
  · rw [List.mem_singleton.1 h1]; exact hk
theorem dd_le : ∀ l : List Byt, (dd l).length ≤ l.length
  | [] => Nat.le_refl _
  | x :: l => by
    unfold dd
    have := dd_le l
    split <;> simp <;> omega
theorem flat_le {α β : Type} {f : α → List β} {b : Nat} : ∀ {l : List α}, (∀ x, x ∈ l → (f x).length ≤ b) → (l.flatMap f).length ≤ l.length * b
  | [], _ => by simp
  | x :: l, h => by
    rw [List.flatMap_cons, List.length_append, List.length_cons, Nat.succ_mul]
    have h1 := h x (List.mem_cons_self ..)
    have h2 := flat_le (l := l) (fun y hy => h y (List.mem_cons_of_mem _ hy))
    omega
theorem nodesN_le (C : Cont) (n : Nat) (h : C.length ≤ n) : nodesN C ≤ 1 + n + n * n := by
  unfold nodesN
  refine Nat.le_trans (dd_le _) ?_
  unfold keyPaths
  rw [List.length_append, List.length_cons, List.length_map]
  have h1 : (C.flatMap fun a => (C.filter fun b => decide (a.1 ≠ b.1)).map fun b => cpre (bl a.1) (bl b.1)).length ≤ C.length * C.length := flat_le fun x _ => by
    rw [List.length_map]
    exact List.length_filter_le _ _
  have h2 : C.length * C.length ≤ n * n := Nat.mul_le_mul h h
  omega
/-- What the document's Delete does. -/
def DelD (w : World) (d : Nat) (L : Cont) (key : Str) (e : Ending) (w' : World) : Prop :=
  e = .returned (.tuple #[.string ((cget L key).getD s0), .bool (cget L key).isSome]) ∧
    ∃ a' c' w1, Below w.heap.size w w1 ∧ Row w.heap.size 57 2 pcel w1 (.slice a' (cdel L key).length c') (cdel L key) ∧ w' = w1.setCell ⟨d, 0, none⟩ (.slice a' (cdel L key).length c')
set_option maxRecDepth 100000 in
set_option maxHeartbeats 4000000 in
theorem r12del_any {w : World} {d : Nat} {a : Option Addr} {c : Nat} {L : Cont} {size oth : Nat} {gone : Bool} (h : DT w d a c L size oth gone) (key : Str) :
    Calls Tryz.prog 32 #[.pointer (some ⟨d, 0, none⟩), .string key] w (DelD w d L key) := by
  obtain ⟨x0, x1, x2, x3, xq, xf⟩ := cells4 h.blk
  have hlen := h.len
  have hb := h.blk
  have hG := r7get_any a c L key w h.at_ (by omega)
  have hW := Lib.hid fun W (hW : Below w.heap.size w W) => r7without_any a c L key W (h.at_.below hW) (by omega)
  unfold DelD
  unfold MapEnd at hW
  obtain ⟨gv, hgv⟩ : ∃ gv, gv = (cget L key).getD s0 := ⟨_, rfl⟩
  obtain ⟨gs, hgs⟩ : ∃ gs, gs = (cget L key).isSome := ⟨_, rfl⟩
  rw [← hgv, ← hgs] at hG ⊢
  obtain ⟨n, hn⟩ : ∃ n, n = L.length := ⟨_, rfl⟩
  rw [← hn] at hG hW x0 hlen
  obtain ⟨L', hL'⟩ : ∃ L', L' = cdel L key := ⟨_, rfl⟩
  rw [← hL'] at hW ⊢
  replace hgv := Lib.hid hgv
  replace hgs := Lib.hid hgs
  replace hn := Lib.hid hn
  replace hL' := Lib.hid hL'
  replace hb := Lib.hid hb
  clear h
  go_enter Tryz.func32, Tryz.ntmps32
  go_wp2_with fail
  refine hG.mono ?_
  clear hG
  rintro e w2 ⟨rfl, hb2⟩
  have hW2 := hW.out w2 hb2
  obtain ⟨y0, y1, y2, y3, yq, yf⟩ := cells4 (Below.heap' hb2 hb.out)
  rw [← hn.out] at y0
  have hbd := Lib.hid (Below.heap' hb2 hb.out)
  replace hb2 := Lib.hid hb2
  clear x0 x1 x2 x3 xq xf hW
  go_wp2_with fail
  refine hW2.mono ?_
  clear hW2
  rintro e w3 ⟨a', c', rfl, hr3, hb3⟩
  obtain ⟨z0, z1, z2, z3, zq, zf⟩ := cells4 (Below.heap' hb3 hbd.out)
  have hfin : Hid (∃ a2 c2 w1, Below w.heap.size w w1 ∧ Row w.heap.size 57 2 pcel w1 (.slice a2 L'.length c2) L' ∧ w3.setCell ⟨d, 0, none⟩ (.slice a' L'.length c') = w1.setCell ⟨d, 0, none⟩ (.slice a2 L'.length c2)) := Lib.hid
    ⟨a', c', w3, hb2.out.trans (hb3.mono hb2.out.size), hr3.rebase (fun q hq => by have := (hr3.lt q hq).1; have := hb2.out.size; omega), rfl⟩
  replace hb3 := Lib.hid hb3
  replace hr3 := Lib.hid hr3
  clear y0 y1 y2 y3 yq yf
  go_wp2_with fail
  go_ret2
  exact ⟨rfl, hfin.out⟩
theorem r12drop_any {w : World} {d : Nat} {a : Option Addr} {c : Nat} {L : Cont} {size oth : Nat} {gone : Bool} (h : DT w d a c L size oth gone) :
    Calls Tryz.prog 35 #[.pointer (some ⟨d, 0, none⟩)] w fun e w' => e = .returned (.tuple #[]) ∧ w' = (w.setCell ⟨d, 0, none⟩ (.slice none 0 0)).setCell ⟨d, 3, none⟩ (.bool true) := by
  obtain ⟨x0, x1, x2, x3, xq, xf⟩ := cells4 h.blk
  clear h
  go_enter Tryz.func35, Tryz.ntmps35
  go_wp2_with fail
  exact ⟨rfl, .tuple #[], by simp [results, Tryz.results35, go_sem], rfl, rfl⟩
/-- What the document's Put does. -/
def PutD (w : World) (d : Nat) (L : Cont) (size oth : Nat) (gone : Bool) (key v : Str) (e : Ending) (w' : World) : Prop :=
  (gone = true ∧ e = .returned (.tuple #[.string s0, .bool false, .int .i64 8]) ∧ w = w') ∨
  (gone = false ∧ (nodesN L < nodesN (cwith L key v) ∧ size < nodesN (cwith L key v) + oth) ∧ e = .returned (.tuple #[.string s0, .bool false, .int .i64 5]) ∧ Below w.heap.size w w') ∨
  (gone = false ∧ ¬ (nodesN L < nodesN (cwith L key v) ∧ size < nodesN (cwith L key v) + oth) ∧ e = .returned (.tuple #[.string ((cget L key).getD s0), .bool (cget L key).isSome, .int .i64 0]) ∧
    ∃ a' c' w1, Below w.heap.size w w1 ∧ Row w.heap.size 57 2 pcel w1 (.slice a' (cwith L key v).length c') (cwith L key v) ∧ w' = w1.setCell ⟨d, 0, none⟩ (.slice a' (cwith L key v).length c'))
set_option maxRecDepth 100000 in
set_option maxHeartbeats 8000000 in
theorem r12put_any {w : World} {d : Nat} {a : Option Addr} {c : Nat} {L : Cont} {size oth : Nat} {gone : Bool} (h : DT w d a c L size oth gone) (key v : Str) (hk : key.size ≤ maxLen) (hsz : size ≤ 100000 ∧ oth ≤ 100000) :
    Calls Tryz.prog 31 #[.pointer (some ⟨d, 0, none⟩), .string key, .string v] w (PutD w d L size oth gone key v) := by
  obtain ⟨x0, x1, x2, x3, xq, xf⟩ := cells4 h.blk
  have hlen := h.len
  cases gone with
  | true =>
    clear h
    go_enter Tryz.func31, Tryz.ntmps31
    go_wp2_with fail
    refine bodyPost_ret (v := .tuple #[.string ⟨#[]⟩, .bool false, .int .i64 8]) (by simp [results, Tryz.results31, go_sem]) rfl (.inl ⟨rfl, rfl, rfl⟩)
  | false =>
    have hG := r7get_any a c L key w h.at_ (by omega)
    have hW := Lib.hid fun W (hW : Below w.heap.size w W) => r7with_any a c L key v W (h.at_.below hW) (by omega)
    have hSo := Lib.hid fun W (hW : Below w.heap.size w W) => r12Slots_any a c L W (h.at_.below hW) (by omega) h.ksz
    obtain ⟨L', hL'⟩ : ∃ L', L' = cwith L key v := ⟨_, rfl⟩
    have hSn := Lib.hid fun W a' c' (hA : At W 2 pcel a' c' L') => r12Slots_any a' c' L' W hA (by rw [hL']; have := cwith_len L key v; omega) (by rw [hL']; exact cwith_ksz h.ksz hk)
    have hn1 : nodesN L' ≤ 2000000 := Nat.le_trans (nodesN_le L' 1001 (by rw [hL']; have := cwith_len L key v; omega)) (by decide)
    have hn0 : nodesN L ≤ 2000000 := Nat.le_trans (nodesN_le L 1001 (by omega)) (by decide)
    have hb := h.blk
    unfold PutD
    rw [← hL'] at hW ⊢
    obtain ⟨gv, hgv⟩ : ∃ gv, gv = (cget L key).getD s0 := ⟨_, rfl⟩
    obtain ⟨gs, hgs⟩ : ∃ gs, gs = (cget L key).isSome := ⟨_, rfl⟩
    rw [← hgv, ← hgs] at hG ⊢
    obtain ⟨N0, hN0⟩ : ∃ N0, N0 = nodesN L := ⟨_, rfl⟩
    obtain ⟨N1, hN1⟩ : ∃ N1, N1 = nodesN L' := ⟨_, rfl⟩
    rw [← hN0] at hSo hn0 ⊢
    rw [← hN1] at hSn hn1 ⊢
    obtain ⟨n, hn⟩ : ∃ n, n = L.length := ⟨_, rfl⟩
    rw [← hn] at hG hW hSo x0 hlen
    obtain ⟨n', hn'⟩ : ∃ n', n' = L'.length := ⟨_, rfl⟩
    unfold MapEnd at hW
    rw [← hn'] at hW hSn ⊢
    obtain ⟨hs1, hs2⟩ := hsz
    replace hL' := Lib.hid hL'
    replace hgv := Lib.hid hgv
    replace hgs := Lib.hid hgs
    replace hN0 := Lib.hid hN0
    replace hN1 := Lib.hid hN1
    replace hn := Lib.hid hn
    replace hn' := Lib.hid hn'
    replace hb := Lib.hid hb
    clear h
    go_enter Tryz.func31, Tryz.ntmps31
    go_wp2_with fail
    refine hG.mono ?_
    clear hG
    rintro e w2 ⟨rfl, hb2⟩
    have hW2 := hW.out w2 hb2
    obtain ⟨y0, y1, y2, y3, yq, yf⟩ := cells4 (Below.heap' hb2 hb.out)
    rw [← hn.out] at y0
    replace hb2 := Lib.hid hb2
    clear x0 x1 x2 x3 xq xf hW
    go_wp2_with fail
    refine hW2.mono ?_
    clear hW2
    rintro e w3 ⟨a', c', rfl, hr3, hb3⟩
    obtain ⟨w4, hw4⟩ : ∃ w4, w4 = w3.alloc (.cells #[.slice a' n' c'] 37) := ⟨_, rfl⟩
    have hb4 : Below w3.heap.size w3 w4 := by rw [hw4]; exact (Below.refl _ _).alloc (Nat.le_refl _) _
    have hbx : w4.heap[w3.heap.size]? = some (.cells #[.slice a' n' c'] 37) := by rw [hw4]; exact heap_alloc_new _ _
    have hB4 : Below w.heap.size w w4 := hb2.out.trans ((hb3.trans (hb4.mono hb3.size)).mono hb2.out.size)
    have hr4 := hr3.below hb4
    have hA4 : At w4 2 pcel a' c' L' := by rw [hn'.out] at hr4; exact hr4.at'
    obtain ⟨x0, x1, x2, x3, xq, xf⟩ := cells4 (Below.heap' hB4 hb.out)
    rw [← hn.out] at x0
    have z0 : w4.cell? ⟨w3.heap.size, 0, none⟩ = some (.slice a' n' c') := by rw [cell_of_heap hbx]; rfl
    have zq := heap_lt hbx
    replace hw4 := Lib.hid hw4
    replace hb3 := Lib.hid hb3
    replace hb4 := Lib.hid hb4
    replace hbx := Lib.hid hbx
    replace hB4 := Lib.hid hB4
    replace hr3 := Lib.hid hr3
    replace hr4 := Lib.hid hr4
    replace hA4 := Lib.hid hA4
    clear y0 y1 y2 y3 yq yf
    go_upto_region 5 with fail
    rw [← hw4.out]
    go_cut [56] (fun v wz => v = .bool (decide (N0 < N1 ∧ size < N1 + oth)) ∧ Below w4.heap.size w4 wz)
    case first =>
      have hCn := Lib.hid fun W (hW : Below w4.heap.size w4 W) => hSn.out W a' c' (hA4.out.below hW)
      have hCo := Lib.hid fun W (hW : Below w4.heap.size w4 W) => hSo.out W (hB4.out.trans (hW.mono hB4.out.size))
      clear hSn hSo
      by_cases hgt : N0 < N1
      · have g1 : (N0 : Int) < (N1 : Int) := by omega
        have g2 : IntKind.i64.wrap ((N1 : Int) + (oth : Int)) = (N1 : Int) + (oth : Int) := IntWalk.i64_in _ (by omega)
        have d1 : decide ((N0 : Int) < (N1 : Int)) = true := decide_eq_true g1
        by_cases hfull : size < N1 + oth
        · have g3 : (size : Int) < (N1 : Int) + (oth : Int) := by omega
          have d2 : decide ((size : Int) < (N1 : Int) + (oth : Int)) = true := decide_eq_true g3
          have hdec := Lib.hid (decide_eq_true (p := N0 < N1 ∧ size < N1 + oth) ⟨hgt, hfull⟩)
          replace hgt := Lib.hid hgt
          replace hfull := Lib.hid hfull
          go_region_held3 (fun W' => W'.cell? ⟨w3.heap.size, 0, none⟩ = some (.slice a' n' c') ∧ W'.cell? ⟨d, 0, none⟩ = some (.slice a n c) ∧ W'.cell? ⟨d, 1, none⟩ = some (.int .i64 size) ∧ W'.cell? ⟨d, 2, none⟩ = some (.int .i64 oth)) (first | exact ⟨z0, x0, x1, x2⟩ | exact ⟨i0, i1, i2, i3⟩ | exact ⟨l0, l1, l2, l3⟩ | exact ⟨m0, m1, m2, m3⟩ | go_keep) (first
            | (go_at_call 38; refine (hCn.out _ j6).mono ?_; rintro z w7 ⟨rfl, hb7⟩; have j7 : Below w4.heap.size w4 w7 := j6.trans (hb7.mono j6.size); have m0 := keep j7 z0; have m1 := keep j7 x0; have m2 := keep j7 x1; have m3 := keep j7 x2)
            | (go_at_call 38; refine (hCo.out _ j5).mono ?_; rintro z w6 ⟨rfl, hb6⟩; have j6 : Below w4.heap.size w4 w6 := j5.trans (hb6.mono j5.size); have l0 := keep j6 z0; have l1 := keep j6 x0; have l2 := keep j6 x1; have l3 := keep j6 x2)
            | (go_at_call 38; refine (hCn.out _ (drew_bel _)).mono ?_; rintro z w5 ⟨rfl, hb5⟩; have j5 : Below w4.heap.size w4 w5 := bel_dr (k := 1) hb5; have i0 := keep j5 z0; have i1 := keep j5 x0; have i2 := keep j5 x1; have i3 := keep j5 x2))
          all_goals
            go_wp2_with fail
            go_meet
            exact ⟨by rw [hdec.out], j7⟩
        · have d2 : decide ((size : Int) < (N1 : Int) + (oth : Int)) = false := decide_eq_false (by omega)
          have hdec := Lib.hid (decide_eq_false (p := N0 < N1 ∧ size < N1 + oth) (fun h => hfull h.2))
          replace hgt := Lib.hid hgt
          replace hfull := Lib.hid hfull
          go_region_held3 (fun W' => W'.cell? ⟨w3.heap.size, 0, none⟩ = some (.slice a' n' c') ∧ W'.cell? ⟨d, 0, none⟩ = some (.slice a n c) ∧ W'.cell? ⟨d, 1, none⟩ = some (.int .i64 size) ∧ W'.cell? ⟨d, 2, none⟩ = some (.int .i64 oth)) (first | exact ⟨z0, x0, x1, x2⟩ | exact ⟨i0, i1, i2, i3⟩ | exact ⟨l0, l1, l2, l3⟩ | exact ⟨m0, m1, m2, m3⟩ | go_keep) (first
            | (go_at_call 38; refine (hCn.out _ j6).mono ?_; rintro z w7 ⟨rfl, hb7⟩; have j7 : Below w4.heap.size w4 w7 := j6.trans (hb7.mono j6.size); have m0 := keep j7 z0; have m1 := keep j7 x0; have m2 := keep j7 x1; have m3 := keep j7 x2)
            | (go_at_call 38; refine (hCo.out _ j5).mono ?_; rintro z w6 ⟨rfl, hb6⟩; have j6 : Below w4.heap.size w4 w6 := j5.trans (hb6.mono j5.size); have l0 := keep j6 z0; have l1 := keep j6 x0; have l2 := keep j6 x1; have l3 := keep j6 x2)
            | (go_at_call 38; refine (hCn.out _ (drew_bel _)).mono ?_; rintro z w5 ⟨rfl, hb5⟩; have j5 : Below w4.heap.size w4 w5 := bel_dr (k := 1) hb5; have i0 := keep j5 z0; have i1 := keep j5 x0; have i2 := keep j5 x1; have i3 := keep j5 x2))
          all_goals
            go_wp2_with fail
            go_meet
            exact ⟨by rw [hdec.out], j7⟩
      · have d1 : decide ((N0 : Int) < (N1 : Int)) = false := decide_eq_false (by omega)
        have d3 : decide (N0 < N1) = false := decide_eq_false hgt
        have hdec := Lib.hid (decide_eq_false (p := N0 < N1 ∧ size < N1 + oth) (fun h => hgt h.1))
        replace hgt := Lib.hid hgt
        -- <<r5
        refine wp_region_held_drew (S := fun W' => W'.cell? ⟨w3.heap.size, 0, none⟩ = some (.slice a' n' c') ∧ W'.cell? ⟨d, 0, none⟩ = some (.slice a n c)) rfl ⟨z0, x0⟩ (fun hHeld => ?_)
        refine takeL 0 (by simp only [List.getElem?_toArray, List.getElem?_cons_zero]; rfl) hHeld ?_
        refine ⟨by kernel_rfl, by kernel_rfl, by kernel_rfl, ?_, fun _ _ _ h => h, Or.inl ⟨by rfl, ?_⟩, ?_⟩
        rotate_left 1
        · intro w hSw; (try dsimp only at hSw); go_simp; first | done | with_reducible rfl
        try simp only [Act.put, List.setIfInBounds_toArray, List.set_cons_zero, List.set_cons_succ]
        refine takeL 3 (by simp only [List.getElem?_toArray, List.getElem?_cons_succ, List.getElem?_cons_zero]; rfl) hHeld ?_
        refine ⟨by kernel_rfl, by kernel_rfl, by kernel_rfl, ?_, fun _ _ _ h => h, Or.inl ⟨by rfl, ?_⟩, ?_⟩
        rotate_left 1
        · intro w hSw; (try dsimp only at hSw); go_simp; first | done | with_reducible rfl
        try simp only [Act.put, List.setIfInBounds_toArray, List.set_cons_zero, List.set_cons_succ]
        refine takeL 4 (by simp only [List.getElem?_toArray, List.getElem?_cons_succ, List.getElem?_cons_zero]; rfl) hHeld ?_
        refine ⟨by kernel_rfl, by kernel_rfl, by kernel_rfl, ?_, fun _ _ _ h => h, Or.inl ⟨by rfl, ?_⟩, ?_⟩
        rotate_left 1
        · intro w hSw; (try dsimp only at hSw); go_simp; first | done | with_reducible rfl
        try simp only [Act.put, List.setIfInBounds_toArray, List.set_cons_zero, List.set_cons_succ]
        refine takeL 5 (by simp only [List.getElem?_toArray, List.getElem?_cons_succ, List.getElem?_cons_zero]; rfl) hHeld ?_
        refine ⟨by kernel_rfl, by kernel_rfl, by kernel_rfl, ?_, fun _ _ _ h => h, Or.inl ⟨by rfl, ?_⟩, ?_⟩
        rotate_left 1
        · intro w hSw; (try dsimp only at hSw); go_simp; first | done | with_reducible rfl
        try simp only [Act.put, List.setIfInBounds_toArray, List.set_cons_zero, List.set_cons_succ]
        refine takeL 6 (by simp only [List.getElem?_toArray, List.getElem?_cons_succ, List.getElem?_cons_zero]; rfl) hHeld ?_
        refine ⟨by kernel_rfl, by kernel_rfl, by kernel_rfl, ?_, fun _ _ _ h => h, Or.inl ⟨by rfl, ?_⟩, ?_⟩
        rotate_left 1
        · intro w hSw; (try dsimp only at hSw); go_simp; first | done | with_reducible rfl
        try simp only [Act.put, List.setIfInBounds_toArray, List.set_cons_zero, List.set_cons_succ]
        refine takeL 1 (by simp only [List.getElem?_toArray, List.getElem?_cons_succ, List.getElem?_cons_zero]; rfl) hHeld ?_
        refine ⟨by kernel_rfl, by kernel_rfl, by kernel_rfl, ?_, fun _ _ _ h => h, Or.inl ⟨by rfl, ?_⟩, ?_⟩
        rotate_left 1
        · intro w hSw; (try dsimp only at hSw); obtain ⟨i1, i2⟩ := hSw; go_simp; first | done | with_reducible rfl
        try simp only [Act.put, List.setIfInBounds_toArray, List.set_cons_zero, List.set_cons_succ]
        refine takeL 7 (by simp only [List.getElem?_toArray, List.getElem?_cons_succ, List.getElem?_cons_zero]; rfl) hHeld ?_
        refine ⟨by kernel_rfl, by kernel_rfl, by kernel_rfl, ?_, fun _ _ _ h => h, Or.inl ⟨by rfl, ?_⟩, ?_⟩
        rotate_left 1
        · intro w hSw; (try dsimp only at hSw); obtain ⟨i1, i2⟩ := hSw; go_simp; first | done | with_reducible rfl
        try simp only [Act.put, List.setIfInBounds_toArray, List.set_cons_zero, List.set_cons_succ]
        refine readyL 2 (by kernel_rfl) (by simp only [List.getElem?_toArray, List.getElem?_cons_succ, List.getElem?_cons_zero]; rfl) ?_
        intro K hK
        go_simp
        go_at_call 38
        refine (hCn.out _ (drew_bel _)).mono ?_
        rintro y w5 ⟨rfl, hb5⟩
        obtain ⟨i1, i2⟩ := hHeld
        have hS1 := And.intro (keep hb5 i1) (keep hb5 i2)
        clear i1 i2
        have j5 : Below w4.heap.size w4 w5 := bel_dr (k := 1) hb5
        go_wp2_with fail
        refine hK.out _ _ hS1 (fun _ => ?_)
        clear hK K
        have hHeld := hS1
        clear hS1
        try simp only [Act.put, List.setIfInBounds_toArray, List.set_cons_zero, List.set_cons_succ]
        refine readyL 8 (by kernel_rfl) (by simp only [List.getElem?_toArray, List.getElem?_cons_succ, List.getElem?_cons_zero]; rfl) ?_
        intro K hK
        go_simp
        go_at_call 38
        refine (hCo.out _ j5).mono ?_
        rintro y w6 ⟨rfl, hb6⟩
        obtain ⟨i1, i2⟩ := hHeld
        have hS1 := And.intro (keep hb6 i1) (keep hb6 i2)
        clear i1 i2
        have j6 : Below w4.heap.size w4 w6 := j5.trans (hb6.mono j5.size)
        go_wp2_with fail
        refine hK.out _ _ hS1 (fun _ => ?_)
        clear hK K
        have hHeld := hS1
        clear hS1
        try simp only [Act.put, List.setIfInBounds_toArray, List.set_cons_zero, List.set_cons_succ]
        refine takeL 9 (by simp only [List.getElem?_toArray, List.getElem?_cons_succ, List.getElem?_cons_zero]; rfl) hHeld ?_
        refine ⟨by kernel_rfl, by kernel_rfl, by kernel_rfl, ?_, fun _ _ _ h => h, Or.inl ⟨by rfl, ?_⟩, ?_⟩
        rotate_left 1
        · intro w hSw; (try dsimp only at hSw); go_simp; first | done | with_reducible rfl
        try simp only [Act.put, List.setIfInBounds_toArray, List.set_cons_zero, List.set_cons_succ]
        refine takeL 10 (by simp only [List.getElem?_toArray, List.getElem?_cons_succ, List.getElem?_cons_zero]; rfl) hHeld ?_
        refine ⟨by kernel_rfl, by kernel_rfl, by kernel_rfl, ?_, fun _ _ _ h => h, Or.inl ⟨by rfl, ?_⟩, ?_⟩
        rotate_left 1
        · intro w hSw; (try dsimp only at hSw); go_simp; first | done | with_reducible rfl
        try simp only [Act.put, List.setIfInBounds_toArray, List.set_cons_zero, List.set_cons_succ]
        refine takeL 11 (by simp only [List.getElem?_toArray, List.getElem?_cons_succ, List.getElem?_cons_zero]; rfl) hHeld ?_
        refine ⟨by kernel_rfl, by kernel_rfl, by kernel_rfl, _, fun _ _ _ h => h, Or.inr ⟨by rfl, rfl⟩, ?_⟩
        try simp only [Act.put, List.setIfInBounds_toArray, List.set_cons_zero, List.set_cons_succ]
        refine takeL 12 (by simp only [List.getElem?_toArray, List.getElem?_cons_succ, List.getElem?_cons_zero]; rfl) hHeld ?_
        refine ⟨by kernel_rfl, by kernel_rfl, by kernel_rfl, _, fun _ _ _ h => h, Or.inr ⟨by rfl, rfl⟩, ?_⟩
        try simp only [Act.put, List.setIfInBounds_toArray, List.set_cons_zero, List.set_cons_succ]
        refine takeL 13 (by simp only [List.getElem?_toArray, List.getElem?_cons_succ, List.getElem?_cons_zero]; rfl) hHeld ?_
        refine ⟨by kernel_rfl, by kernel_rfl, by kernel_rfl, _, fun _ _ _ h => h, Or.inr ⟨by rfl, rfl⟩, ?_⟩
        try simp only [Act.put, List.setIfInBounds_toArray, List.set_cons_zero, List.set_cons_succ]
        refine takeL 14 (by simp only [List.getElem?_toArray, List.getElem?_cons_succ, List.getElem?_cons_zero]; rfl) hHeld ?_
        refine ⟨by kernel_rfl, by kernel_rfl, by kernel_rfl, _, fun _ _ _ h => h, Or.inr ⟨by rfl, rfl⟩, ?_⟩
        try simp only [Act.put, List.setIfInBounds_toArray, List.set_cons_zero, List.set_cons_succ]
        refine takeL 15 (by simp only [List.getElem?_toArray, List.getElem?_cons_succ, List.getElem?_cons_zero]; rfl) hHeld ?_
        refine ⟨by kernel_rfl, by kernel_rfl, by kernel_rfl, _, fun _ _ _ h => h, Or.inr ⟨by rfl, rfl⟩, ?_⟩
        try simp only [Act.put, List.setIfInBounds_toArray, List.set_cons_zero, List.set_cons_succ]
        refine takeL 16 (by simp only [List.getElem?_toArray, List.getElem?_cons_succ, List.getElem?_cons_zero]; rfl) hHeld ?_
        refine ⟨by kernel_rfl, by kernel_rfl, by kernel_rfl, _, fun _ _ _ h => h, Or.inr ⟨by rfl, rfl⟩, ?_⟩
        try simp only [Act.put, List.setIfInBounds_toArray, List.set_cons_zero, List.set_cons_succ]
        refine takeL 17 (by simp only [List.getElem?_toArray, List.getElem?_cons_succ, List.getElem?_cons_zero]; rfl) hHeld ?_
        refine ⟨by kernel_rfl, by kernel_rfl, by kernel_rfl, _, fun _ _ _ h => h, Or.inr ⟨by rfl, rfl⟩, ?_⟩
        try simp only [Act.put, List.setIfInBounds_toArray, List.set_cons_zero, List.set_cons_succ]
        refine takeL 18 (by simp only [List.getElem?_toArray, List.getElem?_cons_succ, List.getElem?_cons_zero]; rfl) hHeld ?_
        refine ⟨by kernel_rfl, by kernel_rfl, by kernel_rfl, _, fun _ _ _ h => h, Or.inr ⟨by rfl, rfl⟩, ?_⟩
        try simp only [Act.put, List.setIfInBounds_toArray, List.set_cons_zero, List.set_cons_succ]
        refine takeL 19 (by simp only [List.getElem?_toArray, List.getElem?_cons_succ, List.getElem?_cons_zero]; rfl) hHeld ?_
        refine ⟨by kernel_rfl, by kernel_rfl, by kernel_rfl, _, fun _ _ _ h => h, Or.inr ⟨by rfl, rfl⟩, ?_⟩
        try simp only [Act.put, List.setIfInBounds_toArray, List.set_cons_zero, List.set_cons_succ]
        refine takeL 20 (by simp only [List.getElem?_toArray, List.getElem?_cons_succ, List.getElem?_cons_zero]; rfl) hHeld ?_
        refine ⟨by kernel_rfl, by kernel_rfl, by kernel_rfl, _, fun _ _ _ h => h, Or.inr ⟨by rfl, rfl⟩, ?_⟩
        try simp only [Act.put, List.setIfInBounds_toArray, List.set_cons_zero, List.set_cons_succ]
        refine takeL 21 (by simp only [List.getElem?_toArray, List.getElem?_cons_succ, List.getElem?_cons_zero]; rfl) hHeld ?_
        refine ⟨by kernel_rfl, by kernel_rfl, by kernel_rfl, _, fun _ _ _ h => h, Or.inr ⟨by rfl, rfl⟩, ?_⟩
        try simp only [Act.put, List.setIfInBounds_toArray, List.set_cons_zero, List.set_cons_succ]
        refine takeL 22 (by simp only [List.getElem?_toArray, List.getElem?_cons_succ, List.getElem?_cons_zero]; rfl) hHeld ?_
        refine ⟨by kernel_rfl, by kernel_rfl, by kernel_rfl, _, fun _ _ _ h => h, Or.inr ⟨by rfl, rfl⟩, ?_⟩
        try simp only [Act.put, List.setIfInBounds_toArray, List.set_cons_zero, List.set_cons_succ]
        refine takeL 23 (by simp only [List.getElem?_toArray, List.getElem?_cons_succ, List.getElem?_cons_zero]; rfl) hHeld ?_
        refine ⟨by kernel_rfl, by kernel_rfl, by kernel_rfl, _, fun _ _ _ h => h, Or.inr ⟨by rfl, rfl⟩, ?_⟩
        try simp only [Act.put, List.setIfInBounds_toArray, List.set_cons_zero, List.set_cons_succ]
        refine takeL 24 (by simp only [List.getElem?_toArray, List.getElem?_cons_succ, List.getElem?_cons_zero]; rfl) hHeld ?_
        refine ⟨by kernel_rfl, by kernel_rfl, by kernel_rfl, ?_, fun _ _ _ h => h, Or.inl ⟨by rfl, ?_⟩, ?_⟩
        rotate_left 1
        · intro w hSw; (try dsimp only at hSw); go_simp; first | done | with_reducible rfl
        try simp only [Act.put, List.setIfInBounds_toArray, List.set_cons_zero, List.set_cons_succ]
        refine wpAnyH_done (by kernel_rfl) ?_ _
        simp only [Exit.then]
        go_wp2_with fail
        go_meet
        exact ⟨by rw [hdec.out], j6⟩
        -- >>r5
    case rest =>
      obtain ⟨rfl, hb5⟩ := hcut
      obtain ⟨w5, hw5⟩ : ∃ w5, w5 = wc := ⟨_, rfl⟩
      rw [← hw5] at hb5 ⊢
      clear hw5 hSn hSo
      by_cases hd : N0 < N1 ∧ size < N1 + oth
      · rw [decide_eq_true hd]
        have hB5 := Lib.hid (hB4.out.trans (hb5.mono hB4.out.size))
        have hd2 := Lib.hid hd
        clear hb5 hd x0 x1 x2 x3 xq xf z0 zq
        go_wp2_with fail
        refine bodyPost_ret (v := .tuple #[.string ⟨#[]⟩, .bool false, .int .i64 5]) (by simp [results, Tryz.results31, go_sem]) rfl (.inr (.inl ⟨by first | exact trivial | rfl, hd2.out, rfl, hB5.out⟩))
      · rw [decide_eq_false hd]
        have hB5 := hB4.out.trans (hb5.mono hB4.out.size)
        obtain ⟨y0, y1, y2, y3, yq, yf⟩ := cells4 (Below.heap' hB5 hb.out)
        have z1 := keep hb5 z0
        have z2 := Nat.lt_of_lt_of_le zq hb5.size
        have hfin : Hid (∃ a2 c2 w1, Below w.heap.size w w1 ∧ Row w.heap.size 57 2 pcel w1 (.slice a2 n' c2) L' ∧ w5.setCell ⟨d, 0, none⟩ (.slice a' n' c') = w1.setCell ⟨d, 0, none⟩ (.slice a2 n' c2)) := Lib.hid
          ⟨a', c', w5, hB5, (hr4.out.below hb5).rebase (fun q hq => by have := (hr4.out.lt q hq).1; have := hb2.out.size; omega), rfl⟩
        have hd2 := Lib.hid hd
        replace hB5 := Lib.hid hB5
        clear hb5 hd x0 x1 x2 x3 xq xf z0 zq
        go_wp2_with fail
        refine bodyPost_ret (v := .tuple #[.string gv, .bool gs, .int .i64 0]) (by simp [results, Tryz.results31, go_sem]) rfl (.inr (.inr ⟨by first | exact trivial | rfl, hd2.out, rfl, hfin.out⟩))
end Go.Proofs.YtmhlokomlngdmaaGreat
namespace Go.Proofs.YtmhlokomlngdmaaGreat
open Go.RowKit
theorem tmod_bound (x : Int) : -200 < x.tmod 200 ∧ x.tmod 200 < 200 := by
  have h1 := Int.natAbs_tmod x 200
  have h2 : x.natAbs % (200 : Int).natAbs < 200 := Nat.mod_lt _ (by decide)
  omega
set_option maxRecDepth 100000 in
theorem l12Slots_any (x : Int) : ∃ k : Nat, 1 ≤ k ∧ k ≤ 200 ∧ ∀ w, Calls Tryz.prog 8 #[.int .i64 x] w fun e w' => e = .returned (.int .i64 k) ∧ w = w' := by
  obtain ⟨h1, h2⟩ := tmod_bound x
  obtain ⟨y, hy⟩ : ∃ y, y = x.tmod 200 := ⟨_, rfl⟩
  rw [← hy] at h1 h2
  refine ⟨y.natAbs + 1, by omega, by omega, fun w => ?_⟩
  have hw1 : IntKind.i64.wrap y = y := IntWalk.i64_in _ (by omega)
  by_cases hneg : y < 0
  · have e1 : ((y.natAbs + 1 : Nat) : Int) = -y + 1 := by omega
    rw [e1]
    have hw2 : IntKind.i64.wrap (-y) = -y := IntWalk.i64_in _ (by omega)
    have hw3 : IntKind.i64.wrap (-y + 1) = -y + 1 := IntWalk.i64_in _ (by omega)
    have hy2 := hy.symm
    clear hy e1 h1 h2
    go_enter Tryz.func8, Tryz.ntmps8
    go_wp2_with fail
    go_ret
    exact ⟨by simp, rfl⟩
  · have e1 : ((y.natAbs + 1 : Nat) : Int) = y + 1 := by omega
    rw [e1]
    have hw3 : IntKind.i64.wrap (y + 1) = y + 1 := IntWalk.i64_in _ (by omega)
    have hy2 := hy.symm
    clear hy e1 h1 h2
    go_enter Tryz.func8, Tryz.ntmps8
    go_wp2_with fail
    go_ret
    exact ⟨by simp, rfl⟩
set_option maxRecDepth 100000 in
set_option maxHeartbeats 4000000 in
theorem least12_any (a : Option Addr) (c : Nat) (C S : Cont) (key : Str) (after : Bool) (w : World) (h : At w 2 pcel a c C) (hC : C.length ≤ 100000) (hz : ∀ x : Str × Str, x ∈ C → x.1.size ≤ maxLen) (hs : CSort S) (hm : ∀ x, x ∈ C ↔ x ∈ S) (hS : S.length ≤ 100000) (hk : key.size ≤ maxLen) :
    Calls Tryz.prog 34 #[.agg #[.slice a C.length c], .string key, .bool after] w fun e w' => e = .returned (ansV (cnext S key after)) ∧ Below w.heap.size w w' := by
  obtain ⟨n0, hn0⟩ : ∃ n0, n0 = C.length := ⟨_, rfl⟩
  obtain ⟨w1, hw1⟩ : ∃ w1, w1 = (w.alloc (.cells #[.slice a n0 c] 37)).alloc (.cells #[.int .i64 0, .bool false, .string ⟨#[]⟩, .string ⟨#[]⟩] 87) := ⟨_, rfl⟩
  have h2 := heap_two w (.cells #[.slice a n0 c] 37) (.cells #[.int .i64 0, .bool false, .string ⟨#[]⟩, .string ⟨#[]⟩] 87)
  have hb1 := below_two w (.cells #[.slice a n0 c] 37) (.cells #[.int .i64 0, .bool false, .string ⟨#[]⟩, .string ⟨#[]⟩] 87)
  rw [← hw1] at h2 hb1
  have x0 : w1.cell? ⟨w.heap.size, 0, none⟩ = some (.slice a n0 c) := by rw [cell_of_heap h2.1]; rfl
  have q0 := heap_lt h2.1
  have hAl := r7all_any a c C S w1 (h.below hb1) hC hz hs hm hS
  have hbx := h2.2
  clear h h2
  rw [← hn0] at hAl hC ⊢
  have hls := Lib.hid fun x W => less_any x key (.inr hk) W
  obtain ⟨o, ho⟩ : ∃ o, o = cnext S key after := ⟨_, rfl⟩
  rw [← ho]
  have hhit := Lib.hid fun (k : Nat) (hlo : ∀ (j : Nat) (x : Str × Str), j < k → S[j]? = some x → abv key after x.1 = false) (hhi : ∀ p, S[k]? = some p → abv key after p.1 = true) => ho.trans (cnext_at hlo hhi)
  replace hw1 := Lib.hid hw1
  replace hb1 := Lib.hid hb1
  replace hbx := Lib.hid hbx
  replace hn0 := Lib.hid hn0
  replace hz := Lib.hid hz
  replace hm := Lib.hid hm
  replace hs := Lib.hid hs
  replace ho := Lib.hid ho
  go_enter Tryz.func34, Tryz.ntmps34
  go_upto_region 1 with fail
  rw [← hw1.out]
  go_wp2_with fail
  refine hAl.mono ?_
  clear hAl
  rintro e w5 ⟨aa, ac, rfl, hra, hb5⟩
  have hpc := Lib.hid fun W (hW : Below w5.heap.size w5 W) i x hx => pair_cells (hra.at'.below hW) (i := i) (x := x) hx
  obtain ⟨n, hn⟩ : ∃ n, n = S.length := ⟨_, rfl⟩
  rw [← hn] at hS ⊢
  have hbx5 := Lib.hid (Below.heap' hb5 hbx.out)
  have hB5 := Lib.hid (hb1.out.trans (hb5.mono hb1.out.size))
  replace hn := Lib.hid hn
  clear hra x0 q0 hb5
  go_wp2_with fail
  go_loopg [8] n (fun gk v8 wr => ∃ k : Nat, gk = n - k ∧ k ≤ n ∧ v8 = .int .i64 k ∧ (∀ (j : Nat) (x : Str × Str), j < k → S[j]? = some x → abv key after x.1 = false) ∧ Below w5.heap.size w5 wr)
  case atStart => exact ⟨0, rfl, Nat.zero_le _, rfl, fun j x hj => absurd hj (Nat.not_lt_zero _), Below.refl _ _⟩
  case round =>
    obtain ⟨k, rfl, hk2, rfl, hlo, hB⟩ := hrel
    by_cases hlt : k < n
    · obtain ⟨x, hx⟩ : ∃ x, S[k]? = some x := ⟨_, List.getElem?_eq_getElem (by have := hn.out; omega)⟩
      obtain ⟨b, od, rfl, hb2, hl1, hc1, k0, k1⟩ := hpc.out wr hB k x hx
      have hlx := hls.out x.1 wr
      have hov : abv key after x.1 = true → o = some x := fun ha => by
        rw [hhit.out k hlo (fun p hp => by rw [hx] at hp; injection hp with hp; rw [← hp]; exact ha), hx]
      have hlo2 : abv key after x.1 = false → ∀ (j : Nat) (y : Str × Str), j < k + 1 → S[j]? = some y → abv key after y.1 = false := fun ha j y hj hy => by
        rcases Nat.lt_or_ge j k with h1 | h1
        · exact hlo j y h1 hy
        · obtain rfl : j = k := by omega
          rw [hx] at hy
          injection hy with hy
          rw [← hy]; exact ha
      obtain ⟨p, q⟩ := x
      simp only at k0 k1 hlx hov hlo2
      have hbe := str_beq p key
      have hA2 : (k : Int) < (n : Int) := by omega
      have hA3 : (0 : Int) ≤ (k : Int) := by omega
      have hw2 : IntKind.i64.wrap ((k : Int) + 1) = (k : Int) + 1 := IntWalk.i64_in _ (by omega)
      have hl2 : n ≤ ac := by have := hn.out; omega
      replace hl1 := Lib.hid hl1
      replace hx := Lib.hid hx
      replace hov := Lib.hid hov
      replace hlo2 := Lib.hid hlo2
      replace hB := Lib.hid hB
      replace hlo := Lib.hid hlo
      go_upto_region 5 with fail
      go_cut [35] (fun v wz => v = .bool (!(abv key after p)) ∧ Below wr.heap.size wr wz)
      case first =>
        cases hsl : slt p key with
        | true =>
          rw [hsl] at hlx
          have ha := Lib.hid (abv_lt (after := after) hsl)
          replace hsl := Lib.hid hsl
          go_wp2_with fail
          refine hlx.mono ?_
          clear hlx
          rintro e w6 ⟨rfl, hb6⟩
          replace hb6 := Lib.hid hb6
          clear k0 k1
          go_wp2_with fail
          go_meet
          exact ⟨by rw [ha.out]; simp, hb6.out⟩
        | false =>
          rw [hsl] at hlx
          have ha := Lib.hid (show abv key after p = !(after && decide (p = key)) from by
            by_cases hh : after = true ∧ p = key
            · rw [hh.1, hh.2, abv_eq]; simp
            · rw [abv_ge hsl hh]
              by_cases h1 : after = true
              · have : p ≠ key := fun e => hh ⟨h1, e⟩
                simp [this]
              · simp [h1])
          replace hsl := Lib.hid hsl
          go_wp2_with fail
          refine hlx.mono ?_
          clear hlx
          rintro e w6 ⟨rfl, hb6⟩
          have f0 := keep hb6 k0
          have fq := Nat.lt_of_lt_of_le hb2 hb6.size
          replace hb6 := Lib.hid hb6
          clear k0 k1
          cases after with
          | false =>
            go_wp2_with fail
            go_meet
            exact ⟨by rw [ha.out]; simp, hb6.out⟩
          | true =>
            go_wp2_with fail
            go_meet
            exact ⟨by rw [ha.out]; simp, hb6.out⟩
      case rest =>
        obtain ⟨rfl, hb6⟩ := hcut
        obtain ⟨w6, hw6⟩ : ∃ w6, w6 = wc := ⟨_, rfl⟩
        rw [← hw6] at hb6 ⊢
        clear hw6 hlx hbe
        have hB6 := hB.out.trans (hb6.mono hB.out.size)
        cases ha : abv key after p with
        | false =>
          have hl := Lib.hid (hlo2.out ha)
          replace ha := Lib.hid ha
          replace hB6 := Lib.hid hB6
          clear hb6 k0 k1
          go_wp2_with fail
          go_roundg (n - (k + 1))
          case rel => exact ⟨k + 1, rfl, by omega, by go_num, hl.out, hB6.out⟩
          case measure => omega
        | true =>
          have hoo := Lib.hid (hov.out ha)
          have f0 := keep hb6 k0
          have f1 := keep hb6 k1
          have fq := Nat.lt_of_lt_of_le hb2 hb6.size
          have hbr := Below.heap' hB6 hbx5.out
          obtain ⟨y0, y1, y2, y3, yq, yf⟩ := cells4 hbr
          obtain ⟨hst, hsu⟩ := ans_stored hbr (.int .i64 0) (.bool true) (.string p) (.string q)
          have g0 := heap_set_same hbr 0 (.int .i64 0)
          have g1 := heap_set_same g0 1 (.bool true)
          have g2 := heap_set_same g1 2 (.string p)
          obtain ⟨z0, _, _, _, _, _⟩ := cells4 g0
          obtain ⟨_, z1, _, _, _, _⟩ := cells4 g1
          obtain ⟨_, _, z2, _, _, _⟩ := cells4 g2
          obtain ⟨_, _, _, z3, _, _⟩ := cells4 hst
          clear g0 g1 g2
          have hBd := hB5.out.trans (hB6.mono hB5.out.size)
          have hBe := hBd.trans (hsu.below hBd.size (by simp))
          have hfb := Lib.hid (hBe.trans ((drew_bel _).mono hBe.size))
          replace hBe := Lib.hid hBe
          replace ha := Lib.hid ha
          replace hb6 := Lib.hid hb6
          replace hB6 := Lib.hid hB6
          replace hbr := Lib.hid hbr
          replace hst := Lib.hid hst
          replace hsu := Lib.hid hsu
          replace hBd := Lib.hid hBd
          clear k0 k1
          go_upto_region 6 with fail
          go_region
          all_goals
            go_wp2_with fail
            refine bodyPost_ret (v := .agg #[.int .i64 0, .bool true, .string p, .string q]) (by simp [results, Tryz.results34, go_sem, z0, z1, z2, z3]) rfl ⟨by rw [hoo.out]; rfl, hfb.out⟩
    · obtain rfl : k = n := by omega
      have hbr := Below.heap' hB hbx5.out
      obtain ⟨y0, y1, y2, y3, yq, yf⟩ := cells4 hbr
      obtain ⟨hst, hsu⟩ := ans_stored hbr (.int .i64 0) (.bool false) (.string ⟨#[]⟩) (.string ⟨#[]⟩)
      obtain ⟨z0, z1, z2, z3, _, _⟩ := cells4 hst
      have hBr := hB5.out.trans (hB.mono hB5.out.size)
      have hfb := Lib.hid (hBr.trans (hsu.below hBr.size (by simp)))
      have hon : o = none := by
        rw [hhit.out k hlo (fun p hp => by have := (List.getElem?_eq_some_iff.1 hp).1; have := hn.out; omega)]
        exact List.getElem?_eq_none (by have := hn.out; omega)
      have hov := Lib.hid hon
      replace hst := Lib.hid hst
      replace hsu := Lib.hid hsu
      replace hBr := Lib.hid hBr
      replace hbr := Lib.hid hbr
      replace hB := Lib.hid hB
      clear hlo hon
      go_wp2_with fail
      refine bodyPost_ret (v := .agg #[.int .i64 0, .bool false, .string ⟨#[]⟩, .string ⟨#[]⟩]) (by simp [results, Tryz.results34, go_sem, z0, z1, z2, z3]) rfl ⟨by rw [hov.out]; rfl, hfb.out⟩
end Go.Proofs.YtmhlokomlngdmaaGreat
