/- The document's comparison of two rows of pairs at one content. What is left of a content's end. -/
import Derived.Test.YtmhlokomlngdmaaGreatArtTz
import Derived.Test.YtmhlokomlngdmaaGreatArtLs
namespace Go.Proofs.YtmhlokomlngdmaaGreat
open Go.RowKit
theorem pair_cells {w : World} {a : Option Addr} {c : Nat} {C : Cont} (h : At w 2 pcel a c C) {i : Nat} {x : Str × Str} (hx : C[i]? = some x) :
    ∃ b o, a = some ⟨b, o, none⟩ ∧ b < w.heap.size ∧ C.length ≤ c ∧ c ≤ 9223372036854775807 ∧ w.cell? ⟨b, o + i * 2, none⟩ = some (.string x.1) ∧ w.cell? ⟨b, o + i * 2 + 1, none⟩ = some (.string x.2) := by
  obtain ⟨b, o, e, h1, h2, h3, h4⟩ := h.some (by have := (List.getElem?_eq_some_iff.1 hx).1; omega)
  exact ⟨b, o, e, h1, h2, h3, by simpa using h4 i x hx 0 _ rfl, h4 i x hx 1 _ rfl⟩
set_option maxRecDepth 100000 in
set_option maxHeartbeats 1000000 in
theorem same12_any (a1 a2 : Option Addr) (c1 c2 : Nat) (C : Cont) (w : World) (h1 : At w 2 pcel a1 c1 C) (h2 : At w 2 pcel a2 c2 C) (hC : C.length ≤ 100000) :
    Calls Tryz.prog 13 #[.slice a1 C.length c1, .slice a2 C.length c2] w fun e w' => e = .returned (.bool true) ∧ Below w.heap.size w w' := by
  have g1 := Lib.hid fun i x hx => pair_cells h1 (i := i) (x := x) hx
  have g2 := Lib.hid fun i x hx => pair_cells h2 (i := i) (x := x) hx
  clear h1 h2
  obtain ⟨n, hn⟩ : ∃ n, n = C.length := ⟨_, rfl⟩
  rw [← hn] at hC ⊢
  replace hn := Lib.hid hn
  go_enter Tryz.func13, Tryz.ntmps13
  go_wp2_with fail
  go_loopg [5] n (fun gk v wr => ∃ k : Nat, gk = n - k ∧ k ≤ n ∧ v = .int .i64 k ∧ Below w.heap.size w wr)
  case atStart => exact ⟨0, rfl, by omega, rfl, Below.refl _ _⟩
  case round =>
    obtain ⟨k, rfl, hk, rfl, hB⟩ := hrel
    by_cases hlt : k < n
    · obtain ⟨x, hx⟩ : ∃ x, C[k]? = some x := ⟨_, List.getElem?_eq_getElem (by have := hn.out; omega)⟩
      obtain ⟨b, o, rfl, hb1, hl1, hc1, k0, k1⟩ := g1.out k x hx
      obtain ⟨b', o', rfl, hb2, hl2, hc2, j0, j1⟩ := g2.out k x hx
      have x0 := keep hB k0
      have x1 := keep hB k1
      have y0 := keep hB j0
      have y1 := keep hB j1
      have hbw := block_lt_of_cell x0
      have hbw2 := block_lt_of_cell y0
      have hA2 : (k : Int) < (n : Int) := by omega
      have hA3 : (0 : Int) ≤ (k : Int) := by omega
      have hw1 : IntKind.i64.wrap ((k : Int) + 1) = (k : Int) + 1 := IntWalk.i64_in _ (by omega)
      replace hB := Lib.hid hB
      obtain ⟨p, q⟩ := x
      simp only at x0 x1 y0 y1
      clear k0 k1 j0 j1 hx
      go_upto_region 6 with fail
      go_cut [25] (fun v wx => v = .bool false ∧ Below wr.heap.size wr wx)
      case first =>
        go_quiet (fail)
        go_wp2_with fail
        go_meet
        exact ⟨by simp, below_drewN (Below.refl _ _) _⟩
      case rest =>
        obtain ⟨rfl, hb7⟩ := hcut
        have hB7 := Lib.hid (hB.out.trans (hb7.mono hB.out.size))
        clear hb7 x0 x1 y0 y1
        go_wp2_with fail
        go_roundg (n - (k + 1))
        case rel => exact ⟨k + 1, rfl, by omega, by go_num, hB7.out⟩
        case measure => omega
    · obtain rfl : k = n := by omega
      replace hB := Lib.hid hB
      go_wp2_with fail
      go_ret
      exact ⟨rfl, hB.out⟩
theorem nodesN_mono {A B : Cont} (h : ∀ x, x ∈ A → x ∈ B) : nodesN A ≤ nodesN B := by
  refine nd_sub_len (nodup_dd _) fun p hp => ?_
  rw [mem_dd, mem_keyPaths] at hp ⊢
  rcases hp with h1 | ⟨kv, h1, h2⟩ | ⟨a, b, h1, h2, h3, h4⟩
  · exact .inl h1
  · exact .inr (.inl ⟨kv, h _ h1, h2⟩)
  · exact .inr (.inr ⟨a, b, h _ h1, h _ h2, h3, h4⟩)
theorem cs_drop {C : Cont} (h : CSort C) (n : Nat) : CSort (C.drop n) := List.Pairwise.sublist (List.drop_sublist n C) h
theorem drop_at {C : Cont} {j : Nat} {x : Str × Str} (hx : C[j]? = some x) : C.drop j = x :: C.drop (j + 1) := by
  obtain ⟨h1, h2⟩ := List.getElem?_eq_some_iff.1 hx
  rw [List.drop_eq_getElem_cons h1, h2]
theorem drop_gt {C : Cont} (h : CSort C) {j : Nat} {x : Str × Str} (hx : C[j]? = some x) : ∀ y, y ∈ C.drop (j + 1) → slt x.1 y.1 = true := by
  have h1 := cs_drop h j
  rw [drop_at hx] at h1
  exact (List.pairwise_cons.1 h1).1
theorem drop_put {C : Cont} (h : CSort C) {j : Nat} {x : Str × Str} (hx : C[j]? = some x) : cput (C.drop (j + 1)) x.1 x.2 = C.drop j := by
  have h1 := drop_gt h hx
  rw [drop_at hx]
  unfold cput
  rw [filter_none (fun q hq => slt_asymm (h1 q hq)), filter_all (fun q hq => h1 q hq)]
  rfl
theorem drop_get {C : Cont} (h : CSort C) {j : Nat} {x : Str × Str} (hx : C[j]? = some x) : cget (C.drop j) x.1 = some x.2 := by
  refine cget_at (cs_drop h j) (n := 0) ?_
  rw [drop_at hx]
  rfl
theorem drop_del {C : Cont} (h : CSort C) {j : Nat} {x : Str × Str} (hx : C[j]? = some x) : cdel (C.drop j) x.1 = C.drop (j + 1) := by
  have h1 := drop_gt h hx
  rw [drop_at hx]
  unfold cdel
  rw [List.filter_cons_of_neg (by simp), filter_all (fun q hq => by
    have h2 := h1 q hq
    have : ¬ q.1 = x.1 := fun e => by rw [e, slt_irrefl] at h2; cases h2
    simpa using this)]
theorem drop_nodes (C : Cont) (j : Nat) : nodesN (C.drop j) ≤ nodesN C := nodesN_mono fun _ h => List.mem_of_mem_drop h
end Go.Proofs.YtmhlokomlngdmaaGreat
