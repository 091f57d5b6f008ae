/- BlinkPlays: what the law asks of the tree behind each act ('all'); an act, whatever it is; the world that the law begins with. The walk of the law BlinkPlays. -/
import Derived.Test.YtlhobbfncjjeaaaBkPlD
import Derived.Test.YtlhobbfncjjeaaaHeldG
namespace Go.Proofs.Ytlhobbfncjjeaaa
open Go.RowKit
set_option maxRecDepth 100000 in
set_option maxHeartbeats 2000000 in
theorem l10all_any (t : Nat) (wa : Option Addr) (wc : Nat) (T : Cont) (w : World)
    (hA : ∀ W, Below w.heap.size w W → Calls Try.prog 22 #[.pointer (some ⟨t, 0, none⟩)] W (AllEnd W T) ∧
      (Calls Try.prog 24 #[.pointer (some ⟨t, 0, none⟩)] W fun e w' => e = .returned (.int .i64 T.length) ∧ W = w') ∧
      (Calls Try.prog 19 #[.pointer (some ⟨t, 0, none⟩)] W fun e w' => e = .returned (.bool true) ∧ Below W.heap.size W w'))
    (h2 : At w 2 pcel wa wc T) (hC : T.length ≤ 100000) :
    Calls Try.prog 36 #[.pointer (some ⟨t, 0, none⟩), .slice wa T.length wc] w fun e w' => e = .returned (.bool true) ∧ Below w.heap.size w w' := by
  have hc1 := Lib.hid (hA w (Below.refl _ _)).1
  replace hA := Lib.hid hA
  replace h2 := Lib.hid h2
  go_enter Try.func36, Try.ntmps36
  go_wp2_with fail
  refine hc1.out.mono ?_
  clear hc1
  rintro e w1 ⟨aa, ac, rfl, hra, hb1⟩
  have hat := Lib.hid hra.at'
  have hc1 := (hA.out w1 hb1).2.1
  replace hb1 := Lib.hid hb1
  clear hra
  obtain ⟨n, hn⟩ : ∃ n, n = T.length := ⟨_, rfl⟩
  rw [← hn] at hC hc1 ⊢
  replace hc1 := Lib.hid hc1
  replace hn := Lib.hid hn
  go_wp2_with fail
  refine hc1.out.mono ?_
  clear hc1
  rintro e w1' ⟨rfl, rfl⟩
  have hc1 := Lib.hid (hA.out w1 hb1.out).2.2
  go_wp2_with fail
  refine hc1.out.mono ?_
  clear hc1
  rintro e w2 ⟨rfl, hb2⟩
  have hB2 := hb1.out.trans (hb2.mono hb1.out.size)
  have g1 := Lib.hid fun i x hx => pair_cells (hat.out.below hb2) (i := i) (x := x) hx
  have g2 := Lib.hid fun i x hx => pair_cells (h2.out.below hB2) (i := i) (x := x) hx
  clear hat h2 hb1 hb2 hA
  replace hB2 := Lib.hid hB2
  go_wp2_with fail
  go_loopg [6] n (fun gk v wr => ∃ k : Nat, gk = n - k ∧ k ≤ n ∧ v = .int .i64 k ∧ Below w2.heap.size w2 wr)
  case atStart => exact ⟨0, rfl, by omega, rfl, Below.refl _ _⟩
  case round =>
    obtain ⟨k, rfl, hk, rfl, hB⟩ := hrel
    by_cases hlt : k < n
    · obtain ⟨x, hx⟩ : ∃ x, T[k]? = some x := ⟨_, List.getElem?_eq_getElem (by have := hn.out; omega)⟩
      obtain ⟨b, o, rfl, hb1, hl1, hc1, k0, k1⟩ := g1.out k x hx
      obtain ⟨b', o', rfl, hb2, hl2, hc2, j0, j1⟩ := g2.out k x hx
      have x0 := keep hB k0
      have x1 := keep hB k1
      have y0 := keep hB j0
      have y1 := keep hB j1
      have hbw := block_lt_of_cell x0
      have hbw2 := block_lt_of_cell y0
      have hA2 : (k : Int) < (n : Int) := by omega
      have hA3 : (0 : Int) ≤ (k : Int) := by omega
      have hw1 : IntKind.i64.wrap ((k : Int) + 1) = (k : Int) + 1 := IntWalk.i64_in _ (by omega)
      replace hB := Lib.hid hB
      obtain ⟨p, q⟩ := x
      simp only at x0 x1 y0 y1
      clear k0 k1 j0 j1 hx
      go_upto_region 7 with fail
      go_cut [55] (fun v wx => v = .bool false ∧ Below wr.heap.size wr wx)
      case first =>
        go_quiet (fail)
        go_wp2_with fail
        go_meet
        exact ⟨by simp, below_drewN (Below.refl _ _) _⟩
      case rest =>
        obtain ⟨rfl, hb7⟩ := hcut
        have hB7 := Lib.hid (hB.out.trans (hb7.mono hB.out.size))
        clear hb7 x0 x1 y0 y1
        go_wp2_with fail
        go_roundg (n - (k + 1))
        case rel => exact ⟨k + 1, rfl, by omega, by go_num, hB7.out⟩
        case measure => omega
    · obtain rfl : k = n := by omega
      replace hB := Lib.hid (hB2.out.trans (hB.mono hB2.out.size))
      go_wp2_with fail
      go_ret
      exact ⟨rfl, hB.out⟩
section
variable {w0 w : World} {xb p t ai c0 k : Nat} {K : List (Nat × Obj)} {C : Cont} {dr : Bool}
theorem does10_any (h : PY w0 w xb p t ai K c0 k C C dr dr) (hk : k < 300) (x : A10) (hks : x.2.1.size ≤ maxLen) :
    Calls Try.prog 35 #[wobj xb, actV x] w (PEnd w0 xb p t ai K c0 (k + 1)) := by
  obtain ⟨dd, x1, x2, aft⟩ := x
  by_cases e0 : dd = 0
  · subst e0; exact does10_0 h hk x1 x2 aft hks
  by_cases e1 : dd = 1
  · subst e1; exact does10_1 h hk x1 x2 aft
  by_cases e2 : dd = 2
  · subst e2; exact does10_2 h hk x1 x2 aft
  by_cases e3 : dd = 3
  · subst e3; exact does10_3 h hk x1 x2 aft hks
  by_cases e4 : dd = 4
  · subst e4; exact does10_4 h hk x1 x2 aft
  by_cases e5 : dd = 5
  · subst e5; exact does10_5 h hk x1 x2 aft
  by_cases e6 : dd = 6
  · subst e6; exact does10_6 h hk x1 x2 aft
  exact does10_n h hk dd x1 x2 aft e0 e1 e2 e3 e4 e5 e6
end
/-! ### The world that the law begins with -/
def PN (w0 w : World) (p t c0 : Nat) : Prop := ∃ ρ P gens free d r, (P.1 = p ∧ gens.length = c0) ∧ BW w0 w ρ P gens free [d] ∧ Tr w ρ P [d] 4 0 t d [[(r, leaf0)]] r 0 ∧ free.count true + 1 = c0
section
variable {w0 w : World} {p t c0 : Nat}
theorem PN.new {g f n : Nat} (hb : Below w0.heap.size w0 w) (hp : PoolIs w p g f (List.replicate n 1) (List.replicate n true)) (hl : w0.heap.size ≤ p ∧ w0.heap.size ≤ g ∧ w0.heap.size ≤ f) (hn : 1 ≤ n) :
    Calls Try.prog 11 #[.pointer (some ⟨p, 0, none⟩)] w fun e w' => ∃ t, e = .returned (.tuple #[.pointer (some ⟨t, 0, none⟩), .int .i64 0]) ∧ PN w0 w' p t n := by
  have hpg := hp.2.2.1
  have hpf := hp.2.2.2.1
  have hgf := hp.2.2.2.2.1
  have hlp := heap_lt hp.2.2.2.2.2.1
  have hlg := heap_lt hp.2.2.2.2.2.2.1
  have hlf := heap_lt hp.2.2.2.2.2.2.2
  have hro : Ro w0 w (mark (mark (mark (fun _ => 0) p 1) g 2) f 3) := by
    refine ⟨hb, fun k hk => ?_, fun k hk => ?_⟩ <;> rw [mark_other (by omega), mark_other (by omega), mark_other (by omega)]
  have hB : BW w0 w (mark (mark (mark (fun _ => 0) p 1) g 2) f 3) (p, g, f) (List.replicate n 1) (List.replicate n true) [] :=
    ⟨hro, ⟨⟨hp, by rw [mark_other hpf, mark_other hpg, mark_self], by rw [mark_other hgf, mark_self], mark_self⟩, fun i d hd => by simp at hd⟩⟩
  have hin : true ∈ List.replicate n true := List.mem_replicate.2 ⟨by omega, rfl⟩
  refine (bkNew_some (rt := 4) hB hin (by omega)).mono ?_
  rintro e w' ⟨t, ρ', d, r, he, hB', hT', hU', _⟩
  refine ⟨t, he, ρ', (p, g, f), _, _, d, r, ⟨rfl, List.length_replicate⟩, hB', hT', ?_⟩
  have := count_one hin
  simp only [List.count_replicate_self] at this
  exact this
/-- An arena of ints beside the tree, and the law's struct. -/
theorem PN.arena (h : PN w0 w p t c0) : Calls Try.prog 34 #[.pointer (some ⟨p, 0, none⟩)] w fun e w' => ∃ ai, e = .returned (.pointer (some ⟨ai, 0, none⟩)) ∧
    PY w0 (w'.alloc (.cells #[.pointer (some ⟨p, 0, none⟩), .pointer (some ⟨t, 0, none⟩), .pointer (some ⟨ai, 0, none⟩), .slice none 0 0, .slice none 0 0, .bool false] 78)) w'.heap.size p t ai [] c0 0 [] [] false false := by
  obtain ⟨ρ, P, gens, free, d, r, h1, hB, hT, hct⟩ := h
  obtain ⟨h11, h12⟩ := h1
  subst h11
  refine (AInt.gNew (some ⟨P.1, 0, none⟩) [] w).mono ?_
  rintro e w' ⟨he, hb, hs, hA⟩
  obtain ⟨hAr, hU⟩ := hB.ars.new hB.ro hb hs (ta := 119) (tc := 148) hA
  refine ⟨_, he, ?_⟩
  have hro := hB.ro.step hU (by simp)
  obtain ⟨o, ho⟩ : ∃ o, o = Obj.cells #[.pointer (some ⟨P.1, 0, none⟩), .pointer (some ⟨t, 0, none⟩), .pointer (some ⟨w.heap.size + 1, 0, none⟩), .slice none 0 0, .slice none 0 0, .bool false] 78 := ⟨_, rfl⟩
  rw [← ho]
  have hb2 : Below w'.heap.size w' (w'.alloc o) := (Below.refl _ _).alloc (Nat.le_refl _) o
  have hU2 : RU [] w' (w'.alloc o) _ (mark _ w'.heap.size 7) := (RU.below hro hb2).mark (Nat.le_refl _) (heap_lt (heap_alloc_new w' o))
  have hUU := hU.trans hU2
  have hro2 := hro.step hU2 (by simp)
  have hT2 := hT.ru hUU (by simp) (by simp)
  have hd0 : ([d] ++ [(⟨119, 148, ⟨w.heap.size + 1, w.heap.size, [], 0⟩⟩ : ArD)])[0]? = some d := rfl
  refine ⟨_, P, gens, free, [d] ++ [⟨119, 148, ⟨w.heap.size + 1, w.heap.size, [], 0⟩⟩], d, ⟨119, 148, ⟨w.heap.size + 1, w.heap.size, [], 0⟩⟩, none, 0, [], none, 0, ⟨rfl, h12⟩, ⟨hro2, hAr.ru hU2 (by simp)⟩, rfl, hd0, ⟨rfl, rfl, rfl, rfl⟩, ?_, ?_, ⟨List.Pairwise.nil, Nat.le_refl _⟩, ⟨List.Pairwise.nil, Nat.le_refl _⟩, Nat.le_refl _, ?_⟩
  · refine .inl ⟨rfl, [[(r, leaf0)]], r, hT2.inD hd0, slim0 r, ?_, Nat.le_refl _, ?_⟩
    · simp [content, cont, BN.pairs, leaf0]
    · have h2 : nodes [[(r, leaf0)]] = 1 := rfl
      rw [h2]
      exact hct
  · intro j dj e1 x1 hj hD he1 hx1
    match j, hj, hD with
    | 1, _, hD =>
      injection hD with hD
      subst hD
      cases he1
    | j + 2, _, hD => simp at hD
  · refine ⟨mark_self, ?_, Oth.nil _ _, ?_, fun y hy => by cases hy⟩
    · rw [heap_alloc_new, ho]
      rfl
    · exact ⟨(show Row 0 101 2 pcel (w'.alloc o) (.slice none ([] : Cont).length 0) [] from Row.nil pcel_len pcel_one _ _ _).at', fun b hb => by simp [bks] at hb⟩
end
end Go.Proofs.Ytlhobbfncjjeaaa
namespace Go.Proofs.Ytlhobbfncjjeaaa
open Go.RowKit
set_option maxRecDepth 100000 in
set_option maxHeartbeats 4000000 in
theorem playsLaw_walk (a : Int) (s : Option Addr) (len cap : Nat) (rows : List (List Value)) (w : World) (_ha : (Lit.int .i64 a).wf = true) (hr : IsFlat [.inl .i64, .inr false, .inr false, .inr true] w s len rows) :
    Calls Try.prog 8 #[.int .i64 a, .slice s len cap] w fun e w' => e = .returned (.bool true) ∧ Below w.heap.size w w' := by
  have hlen : len ≤ maxLen := by
    rcases hr with ⟨h0, _⟩ | ⟨_, _, _, h1, _⟩
    · rw [h0]; exact Nat.zero_le _
    · exact h1
  obtain ⟨L, rfl, hL, hsz⟩ := acts_of_flat hr
  clear hr _ha
  have hAw := Lib.hid (awake10_any w)
  have hGr := Lib.hid fun W (hW : Below w.heap.size w W) => great10_any s cap L W (hL.below hW) hsz hlen
  have hro := Lib.hid hL
  replace hsz := Lib.hid hsz
  clear hL hlen
  go_enter Try.func8, Try.ntmps8
  go_wp2_with fail
  refine hAw.out.mono ?_
  clear hAw
  rintro e w1 ⟨rfl, hb1⟩
  go_wp2_with fail
  refine (hGr.out w1 hb1).mono ?_
  clear hGr
  rintro e w2 ⟨rfl | ⟨rfl, h300⟩, hb2⟩
  · replace hb2 := Lib.hid (hb1.trans (hb2.mono hb1.size))
    go_wp2_with fail
    go_ret
    exact ⟨rfl, hb2.out⟩
  have hb12 := hb1.trans (hb2.mono hb1.size)
  clear hb1 hb2
  by_cases hbad : a < 1 ∨ 4096 < a
  · have hNp := Lib.hid (arNewPool_bad a w2 hbad)
    replace hb12 := Lib.hid hb12
    go_wp2_with fail
    refine hNp.out.mono ?_
    clear hNp
    rintro e w3 ⟨rfl, hb3⟩
    have hb13 := Lib.hid (hb12.out.trans (hb3.mono hb12.out.size))
    clear hb3 hb12
    go_wp2_with fail
    refine (bkNew_nil _).mono ?_
    rintro e w4 ⟨rfl, rfl⟩
    go_wp2_with fail
    go_ret
    exact ⟨by simp, hb13.out⟩
  obtain ⟨c0, rfl⟩ : ∃ c0 : Nat, a = (c0 : Int) := ⟨a.toNat, by omega⟩
  have hc1 : 1 ≤ c0 := by omega
  have hc2 : c0 ≤ 4096 := by omega
  have hNp := Lib.hid (arNewPool_some c0 w2 hc1 hc2)
  replace hb12 := Lib.hid hb12
  clear hbad
  go_wp2_with fail
  refine hNp.out.mono ?_
  clear hNp
  rintro e w3 ⟨p, g, f, rfl, hb3, hp1, hg1, hf1, hP1⟩
  have hs12 := hb12.out.size
  have hNw := Lib.hid (PN.new (w0 := w) (hb12.out.trans (hb3.mono hs12)) hP1 ⟨Nat.le_trans hs12 hp1, Nat.le_trans hs12 hg1, Nat.le_trans hs12 hf1⟩ hc1)
  clear hb3 hb12 hs12 hp1 hg1 hf1 hP1 hc1
  replace hc2 := Lib.hid hc2
  go_wp2_with fail
  refine hNw.out.mono ?_
  clear hNw
  rintro e w4 ⟨t, rfl, hN⟩
  have hNa := Lib.hid hN.arena
  clear hN
  go_wp2_with fail
  refine hNa.out.mono ?_
  clear hNa
  rintro e w5 ⟨ai, rfl, hY⟩
  replace hY := Lib.hid hY
  obtain ⟨n, hn⟩ : ∃ n, n = L.length := ⟨_, rfl⟩
  rw [← hn] at h300 ⊢
  replace hn := Lib.hid hn
  go_upto_block 1 with fail
  generalize w5.alloc (.cells #[.pointer (some ⟨p, 0, none⟩), .pointer (some ⟨t, 0, none⟩), .pointer (some ⟨ai, 0, none⟩), .slice none 0 0, .slice none 0 0, .bool false] 78) = w6 at *
  generalize w5.heap.size = xb at *
  go_loopg [10] n (fun gk v wr => ∃ k : Nat, gk = n - k ∧ k ≤ n ∧ v = .int .i64 k ∧ ∃ C dr, PY w wr xb p t ai [] c0 k C C dr dr)
  case atStart => exact ⟨0, rfl, by omega, rfl, [], false, hY.out⟩
  case round =>
    clear hY
    obtain ⟨k, rfl, hk, rfl, C, dr, hY⟩ := hrel
    by_cases hlt : k < n
    · obtain ⟨x, hx⟩ : ∃ x, L[k]? = some x := ⟨_, List.getElem?_eq_getElem (by have := hn.out; omega)⟩
      obtain ⟨b, off, rfl, hbw, hact⟩ := hro.out k x hx
      have hks := (hsz.out x (List.mem_of_getElem? hx)).1
      have hcl := Lib.hid (does10_any (hY.below (Below.refl wr.heap.size wr).drew) (by omega) x hks)
      obtain ⟨e0, e1, e2, e3⟩ := hact.below hY.bel
      obtain ⟨_, _, _, _, _, ⟨_, _, i2, _⟩, _⟩ := hY.cells
      have hbw2 := block_lt_of_cell e0
      replace hact := Lib.hid hact
      replace hx := Lib.hid hx
      obtain ⟨dd, x1, x2, aft⟩ := x
      unfold actV at hcl
      simp only at e0 e1 e2 e3
      have hA2 : (k : Int) < (n : Int) := by omega
      have hA3 : (0 : Int) ≤ (k : Int) := by omega
      have hw1 : IntKind.i64.wrap ((k : Int) + 1) = (k : Int) + 1 := IntWalk.i64_in _ (by omega)
      have hk301 : Hid (k + 1 ≤ 300) := Lib.hid (by omega)
      clear hY hks
      go_upto_region 15 with fail
      go_cut [75] (fun v wz => v = .bool false ∧ ∃ C dr, PY w wz xb p t ai [] c0 (k + 1) C C dr dr)
      case first =>
        -- <<reg
        refine wp_region_held_drew (S := fun w' => w'.cell? ⟨b, off + k * 4, none⟩ = some (.int .i64 dd) ∧ w'.cell? ⟨b, off + k * 4 + 1, none⟩ = some (.string x1) ∧ w'.cell? ⟨b, off + k * 4 + 2, none⟩ = some (.string x2) ∧ w'.cell? ⟨b, off + k * 4 + 3, none⟩ = some (.bool aft) ∧ w'.cell? ⟨xb, 2, none⟩ = some (.pointer (some ⟨ai, 0, none⟩))) rfl ⟨e0, e1, e2, e3, i2⟩ (fun hHeld => ?_)
        refine takeL 0 (by simp only [List.getElem?_toArray, List.getElem?_cons_zero]; rfl) hHeld ?_
        refine ⟨by kernel_rfl, by kernel_rfl, by kernel_rfl, ?_, fun _ _ _ h => h, Or.inl ⟨by rfl, ?_⟩, ?_⟩
        rotate_left 1
        · intro w hSw; (try dsimp only at hSw); go_simp; first | done | with_reducible rfl
        try simp only [Act.put, List.setIfInBounds_toArray, List.set_cons_zero, List.set_cons_succ]
        refine takeL 1 (by simp only [List.getElem?_toArray, List.getElem?_cons_succ, List.getElem?_cons_zero]; rfl) hHeld ?_
        refine ⟨by kernel_rfl, by kernel_rfl, by kernel_rfl, ?_, fun _ _ _ h => h, Or.inl ⟨by rfl, ?_⟩, ?_⟩
        rotate_left 1
        · intro w hSw; (try dsimp only at hSw); go_simp; first | done | with_reducible rfl
        try simp only [Act.put, List.setIfInBounds_toArray, List.set_cons_zero, List.set_cons_succ]
        refine takeL 2 (by simp only [List.getElem?_toArray, List.getElem?_cons_succ, List.getElem?_cons_zero]; rfl) hHeld ?_
        refine ⟨by kernel_rfl, by kernel_rfl, by kernel_rfl, ?_, fun _ _ _ h => h, Or.inl ⟨by rfl, ?_⟩, ?_⟩
        rotate_left 1
        · intro w hSw; (try dsimp only at hSw); go_simp; first | done | with_reducible rfl
        try simp only [Act.put, List.setIfInBounds_toArray, List.set_cons_zero, List.set_cons_succ]
        refine takeL 3 (by simp only [List.getElem?_toArray, List.getElem?_cons_succ, List.getElem?_cons_zero]; rfl) hHeld ?_
        refine ⟨by kernel_rfl, by kernel_rfl, by kernel_rfl, ?_, fun _ _ _ h => h, Or.inl ⟨by rfl, ?_⟩, ?_⟩
        rotate_left 1
        · intro w hSw; (try dsimp only at hSw); go_simp; first | done | with_reducible rfl
        try simp only [Act.put, List.setIfInBounds_toArray, List.set_cons_zero, List.set_cons_succ]
        refine takeL 4 (by simp only [List.getElem?_toArray, List.getElem?_cons_succ, List.getElem?_cons_zero]; rfl) hHeld ?_
        refine ⟨by kernel_rfl, by kernel_rfl, by kernel_rfl, ?_, fun _ _ _ h => h, Or.inl ⟨by rfl, ?_⟩, ?_⟩
        rotate_left 1
        · intro w hSw; (try dsimp only at hSw); obtain ⟨i1, i2, i3, i4, i5⟩ := hSw; go_simp; first | done | with_reducible rfl
        try simp only [Act.put, List.setIfInBounds_toArray, List.set_cons_zero, List.set_cons_succ]
        refine readyL 5 (by kernel_rfl) (by simp only [List.getElem?_toArray, List.getElem?_cons_succ, List.getElem?_cons_zero]; rfl) ?_
        intro K hK
        go_simp
        go_at_call 35
        refine hcl.out.mono ?_
        rintro z w5 ⟨rfl, C5, d5, hY5⟩
        clear e0 e1 e2 e3 i2
        obtain ⟨e0, e1, e2, e3⟩ := hact.out.below hY5.bel
        obtain ⟨oa5, oc5, hn5, wa5, wc5, ⟨_, _, i2, _, i4, _, iq⟩, _, hat5⟩ := hY5.cells
        have hal5 := hY5.alls hk301.out
        obtain ⟨n5, m5, hnm5, hcn5⟩ := hY5.counts hc2.out
        have hw5 : IntKind.i64.wrap (((n5 + m5 : Nat) : Int) - (m5 : Int)) = (n5 : Int) := by
          rw [IntWalk.i64_in _ (by omega)]
          omega
        have hw6 : IntKind.i64.wrap (n5 : Int) = (n5 : Int) := IntWalk.i64_in _ (by omega)
        have hT5 : C5.length ≤ 100000 := by
          obtain ⟨_, _, _, _, _, _, _, _, _, _, _, _, hx5⟩ := hY5
          have := hx5.cc.2
          have := hk301.out
          omega
        have hal6 := Lib.hid (l10all_any t wa5 wc5 C5 w5 hal5 hat5 hT5)
        have hS1 := And.intro e0 (And.intro e1 (And.intro e2 (And.intro e3 i2)))
        replace hcn5 := Lib.hid hcn5
        replace hY5 := Lib.hid hY5
        replace hnm5 := Lib.hid hnm5
        clear hat5 hal5 hT5
        go_wp2_with fail
        refine hK.out _ _ hS1 (fun _ => ?_)
        clear hHeld hK K
        have hHeld := hS1
        clear hS1
        try simp only [Act.put, List.setIfInBounds_toArray, List.set_cons_zero, List.set_cons_succ]
        refine takeL 6 (by simp only [List.getElem?_toArray, List.getElem?_cons_succ, List.getElem?_cons_zero]; rfl) hHeld ?_
        refine ⟨by kernel_rfl, by kernel_rfl, by kernel_rfl, ?_, fun _ _ _ h => h, Or.inl ⟨by rfl, ?_⟩, ?_⟩
        rotate_left 1
        · intro w hSw; (try dsimp only at hSw); go_simp; first | done | with_reducible rfl
        try simp only [Act.put, List.setIfInBounds_toArray, List.set_cons_zero, List.set_cons_succ]
        refine takeL 7 (by simp only [List.getElem?_toArray, List.getElem?_cons_succ, List.getElem?_cons_zero]; rfl) hHeld ?_
        refine ⟨by kernel_rfl, by kernel_rfl, by kernel_rfl, ?_, fun _ _ _ h => h, Or.inl ⟨by rfl, ?_⟩, ?_⟩
        rotate_left 1
        · intro w hSw; (try dsimp only at hSw); go_simp; first | done | with_reducible rfl
        try simp only [Act.put, List.setIfInBounds_toArray, List.set_cons_zero, List.set_cons_succ]
        refine takeL 8 (by simp only [List.getElem?_toArray, List.getElem?_cons_succ, List.getElem?_cons_zero]; rfl) hHeld ?_
        refine ⟨by kernel_rfl, by kernel_rfl, by kernel_rfl, ?_, fun _ _ _ h => h, Or.inl ⟨by rfl, ?_⟩, ?_⟩
        rotate_left 1
        · intro w hSw; (try dsimp only at hSw); go_simp; first | done | with_reducible rfl
        try simp only [Act.put, List.setIfInBounds_toArray, List.set_cons_zero, List.set_cons_succ]
        refine takeL 9 (by simp only [List.getElem?_toArray, List.getElem?_cons_succ, List.getElem?_cons_zero]; rfl) hHeld ?_
        refine ⟨by kernel_rfl, by kernel_rfl, by kernel_rfl, ?_, fun _ _ _ h => h, Or.inl ⟨by rfl, ?_⟩, ?_⟩
        rotate_left 1
        · intro w hSw; (try dsimp only at hSw); go_simp; first | done | with_reducible rfl
        try simp only [Act.put, List.setIfInBounds_toArray, List.set_cons_zero, List.set_cons_succ]
        refine takeL 10 (by simp only [List.getElem?_toArray, List.getElem?_cons_succ, List.getElem?_cons_zero]; rfl) hHeld ?_
        refine ⟨by kernel_rfl, by kernel_rfl, by kernel_rfl, ?_, fun _ _ _ h => h, Or.inl ⟨by rfl, ?_⟩, ?_⟩
        rotate_left 1
        · intro w hSw; (try dsimp only at hSw); go_simp; first | done | with_reducible rfl
        try simp only [Act.put, List.setIfInBounds_toArray, List.set_cons_zero, List.set_cons_succ]
        refine takeL 11 (by simp only [List.getElem?_toArray, List.getElem?_cons_succ, List.getElem?_cons_zero]; rfl) hHeld ?_
        refine ⟨by kernel_rfl, by kernel_rfl, by kernel_rfl, ?_, fun _ _ _ h => h, Or.inl ⟨by rfl, ?_⟩, ?_⟩
        rotate_left 1
        · intro w hSw; (try dsimp only at hSw); go_simp; first | done | with_reducible rfl
        try simp only [Act.put, List.setIfInBounds_toArray, List.set_cons_zero, List.set_cons_succ]
        refine readyL 12 (by kernel_rfl) (by simp only [List.getElem?_toArray, List.getElem?_cons_succ, List.getElem?_cons_zero]; rfl) ?_
        intro K hK
        go_simp
        refine hK.out _ _ hHeld (fun _ => ?_)
        clear hK K
        try simp only [Act.put, List.setIfInBounds_toArray, List.set_cons_zero, List.set_cons_succ]
        refine readyL 13 (by kernel_rfl) (by simp only [List.getElem?_toArray, List.getElem?_cons_succ, List.getElem?_cons_zero]; rfl) ?_
        intro K hK
        go_simp
        go_at_call 36
        refine hal6.out.mono ?_
        rintro z w6 ⟨rfl, hb6⟩
        have hS1 := And.intro (keep hb6 hHeld.1) (And.intro (keep hb6 hHeld.2.1) (And.intro (keep hb6 hHeld.2.2.1) (And.intro (keep hb6 hHeld.2.2.2.1) (keep hb6 hHeld.2.2.2.2))))
        have hbc := Lib.hid hb6
        clear hb6 e0 e1 e2 e3 i2 i4 hal6
        go_wp2_with fail
        refine hK.out _ _ hS1 (fun _ => ?_)
        clear hHeld hK K
        have hHeld := hS1
        clear hS1
        try simp only [Act.put, List.setIfInBounds_toArray, List.set_cons_zero, List.set_cons_succ]
        refine takeL 14 (by simp only [List.getElem?_toArray, List.getElem?_cons_succ, List.getElem?_cons_zero]; rfl) hHeld ?_
        refine ⟨by kernel_rfl, by kernel_rfl, by kernel_rfl, ?_, fun _ _ _ h => h, Or.inl ⟨by rfl, ?_⟩, ?_⟩
        rotate_left 1
        · intro w hSw; (try dsimp only at hSw); go_simp; first | done | with_reducible rfl
        try simp only [Act.put, List.setIfInBounds_toArray, List.set_cons_zero, List.set_cons_succ]
        refine takeL 15 (by simp only [List.getElem?_toArray, List.getElem?_cons_succ, List.getElem?_cons_zero]; rfl) hHeld ?_
        refine ⟨by kernel_rfl, by kernel_rfl, by kernel_rfl, ?_, fun _ _ _ h => h, Or.inl ⟨by rfl, ?_⟩, ?_⟩
        rotate_left 1
        · intro w hSw; (try dsimp only at hSw); go_simp; first | done | with_reducible rfl
        try simp only [Act.put, List.setIfInBounds_toArray, List.set_cons_zero, List.set_cons_succ]
        refine takeL 16 (by simp only [List.getElem?_toArray, List.getElem?_cons_succ, List.getElem?_cons_zero]; rfl) hHeld ?_
        refine ⟨by kernel_rfl, by kernel_rfl, by kernel_rfl, ?_, fun _ _ _ h => h, Or.inl ⟨by rfl, ?_⟩, ?_⟩
        rotate_left 1
        · intro w hSw; (try dsimp only at hSw); go_simp; first | done | with_reducible rfl
        try simp only [Act.put, List.setIfInBounds_toArray, List.set_cons_zero, List.set_cons_succ]
        refine takeL 17 (by simp only [List.getElem?_toArray, List.getElem?_cons_succ, List.getElem?_cons_zero]; rfl) hHeld ?_
        refine ⟨by kernel_rfl, by kernel_rfl, by kernel_rfl, ?_, fun _ _ _ h => h, Or.inl ⟨by rfl, ?_⟩, ?_⟩
        rotate_left 1
        · intro w hSw; (try dsimp only at hSw); go_simp; first | done | with_reducible rfl
        try simp only [Act.put, List.setIfInBounds_toArray, List.set_cons_zero, List.set_cons_succ]
        refine takeL 19 (by simp only [List.getElem?_toArray, List.getElem?_cons_succ, List.getElem?_cons_zero]; rfl) hHeld ?_
        refine ⟨by kernel_rfl, by kernel_rfl, by kernel_rfl, ?_, fun _ _ _ h => h, Or.inl ⟨by rfl, ?_⟩, ?_⟩
        rotate_left 1
        · intro w hSw; (try dsimp only at hSw); go_simp; first | done | with_reducible rfl
        try simp only [Act.put, List.setIfInBounds_toArray, List.set_cons_zero, List.set_cons_succ]
        refine takeL 21 (by simp only [List.getElem?_toArray, List.getElem?_cons_succ, List.getElem?_cons_zero]; rfl) hHeld ?_
        refine ⟨by kernel_rfl, by kernel_rfl, by kernel_rfl, ?_, fun _ _ _ h => h, Or.inl ⟨by rfl, ?_⟩, ?_⟩
        rotate_left 1
        · intro w hSw; (try dsimp only at hSw); go_simp; first | done | with_reducible rfl
        try simp only [Act.put, List.setIfInBounds_toArray, List.set_cons_zero, List.set_cons_succ]
        refine takeL 22 (by simp only [List.getElem?_toArray, List.getElem?_cons_succ, List.getElem?_cons_zero]; rfl) hHeld ?_
        refine ⟨by kernel_rfl, by kernel_rfl, by kernel_rfl, ?_, fun _ _ _ h => h, Or.inl ⟨by rfl, ?_⟩, ?_⟩
        rotate_left 1
        · intro w hSw; (try dsimp only at hSw); go_simp; first | done | with_reducible rfl
        try simp only [Act.put, List.setIfInBounds_toArray, List.set_cons_zero, List.set_cons_succ]
        refine takeL 23 (by simp only [List.getElem?_toArray, List.getElem?_cons_succ, List.getElem?_cons_zero]; rfl) hHeld ?_
        refine ⟨by kernel_rfl, by kernel_rfl, by kernel_rfl, ?_, fun _ _ _ h => h, Or.inl ⟨by rfl, ?_⟩, ?_⟩
        rotate_left 1
        · intro w hSw; (try dsimp only at hSw); go_simp; first | done | with_reducible rfl
        try simp only [Act.put, List.setIfInBounds_toArray, List.set_cons_zero, List.set_cons_succ]
        refine takeL 24 (by simp only [List.getElem?_toArray, List.getElem?_cons_succ, List.getElem?_cons_zero]; rfl) hHeld ?_
        refine ⟨by kernel_rfl, by kernel_rfl, by kernel_rfl, ?_, fun _ _ _ h => h, Or.inl ⟨by rfl, ?_⟩, ?_⟩
        rotate_left 1
        · intro w hSw; (try dsimp only at hSw); obtain ⟨i1, i2, i3, i4, i5⟩ := hSw; go_simp; first | done | with_reducible rfl
        try simp only [Act.put, List.setIfInBounds_toArray, List.set_cons_zero, List.set_cons_succ]
        refine readyL 18 (by kernel_rfl) (by simp only [List.getElem?_toArray, List.getElem?_cons_succ, List.getElem?_cons_zero]; rfl) ?_
        intro K hK
        go_simp
        go_at_call 29
        refine (hcn5.out _ hbc.out).1.mono ?_
        rintro z w7 ⟨rfl, hb6⟩
        have hS1 := And.intro (keep hb6 hHeld.1) (And.intro (keep hb6 hHeld.2.1) (And.intro (keep hb6 hHeld.2.2.1) (And.intro (keep hb6 hHeld.2.2.2.1) (keep hb6 hHeld.2.2.2.2))))
        replace hbc := Lib.hid (hbc.out.trans (hb6.mono hbc.out.size))
        clear hb6
        go_wp2_with fail
        refine hK.out _ _ hS1 (fun _ => ?_)
        clear hHeld hK K
        have hHeld := hS1
        clear hS1
        try simp only [Act.put, List.setIfInBounds_toArray, List.set_cons_zero, List.set_cons_succ]
        refine readyL 20 (by kernel_rfl) (by simp only [List.getElem?_toArray, List.getElem?_cons_succ, List.getElem?_cons_zero]; rfl) ?_
        intro K hK
        go_simp
        go_at_call 30
        refine (hcn5.out _ hbc.out).2.1.mono ?_
        rintro z w8 ⟨rfl, hb6⟩
        have hS1 := And.intro (keep hb6 hHeld.1) (And.intro (keep hb6 hHeld.2.1) (And.intro (keep hb6 hHeld.2.2.1) (And.intro (keep hb6 hHeld.2.2.2.1) (keep hb6 hHeld.2.2.2.2))))
        replace hbc := Lib.hid (hbc.out.trans (hb6.mono hbc.out.size))
        clear hb6
        go_wp2_with fail
        refine hK.out _ _ hS1 (fun _ => ?_)
        clear hHeld hK K
        have hHeld := hS1
        clear hS1
        try simp only [Act.put, List.setIfInBounds_toArray, List.set_cons_zero, List.set_cons_succ]
        refine readyL 25 (by kernel_rfl) (by simp only [List.getElem?_toArray, List.getElem?_cons_succ, List.getElem?_cons_zero]; rfl) ?_
        intro K hK
        go_simp
        go_at_call 37
        refine (hcn5.out _ hbc.out).2.2.mono ?_
        rintro z w9 ⟨rfl, hb6⟩
        have hS1 := And.intro (keep hb6 hHeld.1) (And.intro (keep hb6 hHeld.2.1) (And.intro (keep hb6 hHeld.2.2.1) (And.intro (keep hb6 hHeld.2.2.2.1) (keep hb6 hHeld.2.2.2.2))))
        replace hbc := Lib.hid (hbc.out.trans (hb6.mono hbc.out.size))
        clear hb6
        go_wp2_with fail
        refine hK.out _ _ hS1 (fun _ => ?_)
        clear hHeld hK K
        have hHeld := hS1
        clear hS1
        try simp only [Act.put, List.setIfInBounds_toArray, List.set_cons_zero, List.set_cons_succ]
        refine takeL 26 (by simp only [List.getElem?_toArray, List.getElem?_cons_succ, List.getElem?_cons_zero]; rfl) hHeld ?_
        refine ⟨by kernel_rfl, by kernel_rfl, by kernel_rfl, ?_, fun _ _ _ h => h, Or.inl ⟨by rfl, ?_⟩, ?_⟩
        rotate_left 1
        · intro w hSw; (try dsimp only at hSw); go_simp; first | done | with_reducible rfl
        try simp only [Act.put, List.setIfInBounds_toArray, List.set_cons_zero, List.set_cons_succ]
        refine takeL 27 (by simp only [List.getElem?_toArray, List.getElem?_cons_succ, List.getElem?_cons_zero]; rfl) hHeld ?_
        refine ⟨by kernel_rfl, by kernel_rfl, by kernel_rfl, ?_, fun _ _ _ h => h, Or.inl ⟨by rfl, ?_⟩, ?_⟩
        rotate_left 1
        · intro w hSw; (try dsimp only at hSw); go_simp; first | done | with_reducible rfl
        try simp only [Act.put, List.setIfInBounds_toArray, List.set_cons_zero, List.set_cons_succ]
        refine takeL 28 (by simp only [List.getElem?_toArray, List.getElem?_cons_succ, List.getElem?_cons_zero]; rfl) hHeld ?_
        refine ⟨by kernel_rfl, by kernel_rfl, by kernel_rfl, ?_, fun _ _ _ h => h, Or.inl ⟨by rfl, ?_⟩, ?_⟩
        rotate_left 1
        · intro w hSw; (try dsimp only at hSw); go_simp; first | done | with_reducible rfl
        try simp only [Act.put, List.setIfInBounds_toArray, List.set_cons_zero, List.set_cons_succ]
        refine wpAnyH_done (by kernel_rfl) ?_ _
        simp only [Exit.then]
        go_wp2_with fail
        go_meet
        exact ⟨by simp, C5, d5, hY5.out.below hbc.out⟩
        -- >>reg
      case rest =>
        obtain ⟨rfl, C5, d5, hY5⟩ := hcut
        replace hY5 := Lib.hid hY5
        clear hcl e0 e1 e2 e3 i2 hact hbw
        go_wp2_with fail
        go_roundg (n - (k + 1))
        case rel => exact ⟨k + 1, rfl, by omega, by go_num, C5, d5, hY5.out⟩
        case measure => omega
    · obtain rfl : k = n := by omega
      replace hY := Lib.hid hY.bel
      go_wp2_with fail
      go_ret
      exact ⟨rfl, hY.out⟩
end Go.Proofs.Ytlhobbfncjjeaaa
