/- The walk of the law ArenaRoom: for any size, any steps and any number it returns true. -/
import Derived.Test.YtoknkedmpdcinaaArenaTwoW
namespace Go.Proofs.Ytoknkedmpdcinaa
open Go.RowKit
/-- An arena of numbers and one of texts over one pool, without the map of the law. -/
structure DrI (w0 w : World) (n base : Nat) (R : List Nat) (p g f aa am ba bm : Nat) (gens : List Int) (free : List Bool) (LA LB : List AEnt) (cA cB : Nat) : Prop where
  bel : Below w0.heap.size w0 w
  siz : base ≤ w.heap.size
  pool : PoolIs w p g f gens free
  fst : AInt.AG w R (some ⟨p, 0, none⟩) ⟨aa, am, LA, cA⟩
  snd : AStr.AG w R (some ⟨p, 0, none⟩) ⟨ba, bm, LB, cB⟩
  inA : ∀ e, e ∈ LA → free[e.slot]? = some false
  num : free.length = n
theorem DrI.below {w0 w w' : World} {n base : Nat} {R : List Nat} {p g f aa am ba bm : Nat} {gens : List Int} {free : List Bool} {LA LB : List AEnt} {cA cB : Nat}
    (h : DrI w0 w n base R p g f aa am ba bm gens free LA LB cA cB) (hb : Below w.heap.size w w') : DrI w0 w' n base R p g f aa am ba bm gens free LA LB cA cB :=
  ⟨h.bel.trans (hb.mono h.bel.size), Nat.le_trans h.siz hb.size, h.pool.below hb, ArenaG.below h.fst hb, ArenaG.below h.snd hb, h.inA, h.num⟩
theorem idx_true {free : List Bool} (h : true ∈ free) : free.idxOf true < free.length ∧ free[free.idxOf true]? = some true := by
  have h1 := List.idxOf_lt_length_of_mem h
  refine ⟨h1, ?_⟩
  rw [List.getElem?_eq_getElem h1, List.getElem_idxOf]
theorem DrI.alloc (x : Int) {w0 w : World} {n base : Nat} {R : List Nat} {p g f ms aa am ba bm : Nat} {gens : List Int} {free : List Bool} {LA LB : List AEnt} {cA cB : Nat}
    (h : DrI w0 w n base R p g f aa am ba bm gens free LA LB cA cB) (hk : Blk w0 base R p g f ms aa am ba bm) (hn : true ∈ free) :
    Calls Try.prog 22 #[.pointer (some ⟨aa, 0, none⟩), .int .i64 x] w fun e w' => e = .returned (.tuple #[.agg #[.int .i64 (free.idxOf true), .int .u64 (gens.getD (free.idxOf true) 0)], .int .i64 0]) ∧
      ∃ LA' cA', DrI w0 w' n base R p g f aa am ba bm gens (free.set (free.idxOf true) false) LA' LB cA' cB := by
  have hm := hk.mem
  obtain ⟨⟨a1, a2, a3, a4, a5, a6⟩, ⟨b1, b2, b3, b4, b5, b6⟩, _⟩ := hk.ne
  have hlt := hk.lt
  have hnd := hk.nd
  rw [hk.eq] at hnd
  obtain ⟨i1, i2⟩ := idx_true hn
  refine (AInt.gAlloc_some ⟨aa, am, LA, cA⟩ p g f R gens free x w h.fst h.pool hn a1 a2 a4 a5 a6 ⟨hm.1, hm.2.2.1, hm.2.2.2.2.2.1⟩ (fun r hr => by have := hlt r hr; have := h.siz; omega) (fun e he hs => by
    have := h.inA e he
    rw [hs, i2] at this
    cases this)).mono ?_
  rintro e w' ⟨he, hu, hp, b, hb, hA⟩
  have hba : ba ∉ [p, f, am] := nodup_out (l := [p, g, f, ms, aa, am]) (r := [bm]) hnd (by simp +contextual)
  have hbm : bm ∉ [p, f, am] := nodup_out (l := [p, g, f, ms, aa, am, ba]) (r := []) hnd (by simp +contextual)
  have hin : ∀ k, k ∈ [p, f, am] → k ∈ R := by
    intro k hk'
    simp only [List.mem_cons, List.not_mem_nil, or_false] at hk'
    rcases hk' with rfl | rfl | rfl
    · exact hm.1
    · exact hm.2.2.1
    · exact hm.2.2.2.2.2.1
  refine ⟨he, _, _, h.bel.trans (hu.below h.bel.size fun k hk' => (hlt k (hin k hk')).1), Nat.le_trans h.siz hu.size, hp, hA, ArenaG.upd h.snd hu hin hba hbm, ?_, by rw [List.length_set]; exact h.num⟩
  intro e' he'
  rcases List.mem_append.1 he' with h1 | h1
  · have h2 := h.inA e' h1
    rw [List.getElem?_set]
    split
    · simp
    · exact h2
  · obtain rfl := List.mem_singleton.1 h1
    rw [List.getElem?_set, if_pos rfl, if_pos i1]
set_option maxRecDepth 100000 in
set_option maxHeartbeats 4000000 in
theorem roomLaw_walk (a : Int) (s : Option Addr) (len cap : Nat) (rows : List (List Value)) (q : Int) (w : World) (ha : (Lit.int .u8 a).wf = true) (hr : IsFlat [.inl .u8] w s len rows) (_hq : (Lit.int .i64 q).wf = true) :
    Calls Try.prog 5 #[.int .u8 a, .slice s len cap, .int .i64 q] w fun e w' => e = .returned (.bool true) ∧ Below w.heap.size w w' := by
  obtain ⟨a0, a1⟩ := bounds_u8 ha
  clear ha
  by_cases hl : 300 < len
  · go_enter Try.func5, Try.ntmps5
    go_wp2_with fail
    refine (awake2_any _).mono ?_
    rintro e w1 ⟨rfl, hb1⟩
    go_wp2_with fail
    go_ret
    exact ⟨rfl, hb1⟩
  obtain ⟨m, hm, hm'⟩ : ∃ m : Nat, a % 64 = m ∧ m < 64 := ⟨(a % 64).toNat, by omega, by omega⟩
  go_enter Try.func5, Try.ntmps5
  go_wp2_with fail
  refine (awake2_any _).mono ?_
  rintro e w1 ⟨rfl, hb1⟩
  have hr1 : IsFlat [.inl .u8] w1 s len rows := hr.below hb1
  have HB1 := Lib.hid hb1
  clear hb1 hr
  replace hr1 := Lib.hid hr1
  go_wp2_with fail
  rw [show (1 : Int) + (m : Int) = ((1 + m : Nat) : Int) by omega]
  obtain ⟨n, hn, hn1, hn2⟩ : ∃ n : Nat, 1 + m = n ∧ 1 ≤ n ∧ n ≤ 64 := ⟨1 + m, rfl, by omega, by omega⟩
  rw [hn]
  clear hn hm hm' a0 a1
  refine (two_walk n s len cap rows w1 hr1.out (by omega) hn1 hn2).mono ?_
  rintro e w2 ⟨base, R, p, g, f, ms, aa, am, ba, bm, tv, hs, gens, free, LA, LB, cA, cB, S, cs, rfl, hK, hI⟩
  have hc : free.count true ≤ n := by have := hI.st.num; have := hI.num; omega
  have e1 : (S.length : Int) = (n : Int) - (free.count true : Nat) := by have := hI.st.len; have := hI.num; omega
  have e2 : (LB.length : Int) = (n : Int) - (free.count true : Nat) - (LA.length : Nat) := by have := hI.st.num; have := hI.num; omega
  have hl2 : LA.length ≤ n := by have := hI.st.num; have := hI.num; omega
  have HE1 := Lib.hid e1
  have HE2 := Lib.hid e2
  have HN := Lib.hid hI.num
  clear e1 e2 hr1
  replace hI := Lib.hid hI
  have HC : Hid (free.count true = free.count true) := rfl
  obtain ⟨c, hcc⟩ : ∃ c, free.count true = c := ⟨_, rfl⟩
  have HCC := Lib.hid hcc
  rw [hcc] at hc HE1 HE2
  clear hcc HC
  go_wp2_with fail
  refine (pFree_any p g f gens free w2 hI.out.pool).mono ?_
  rintro e w3 ⟨rfl, rfl⟩
  rw [HCC.out]
  go_wp2_with fail
  refine (pLive_any p g f gens free w2 hI.out.pool).mono ?_
  rw [HCC.out, HN.out]
  rintro e w3 ⟨rfl, hb3⟩
  have hI3 := Lib.hid (hI.out.below hb3)
  clear hb3 hI
  go_wp2_with fail
  refine (pLive_any p g f gens free w3 hI3.out.pool).mono ?_
  rw [HCC.out, HN.out]
  rintro e w4 ⟨rfl, hb4⟩
  have hI4 := Lib.hid (hI3.out.below hb4)
  clear hb4 hI3
  have hlen := run_len (P := Try.prog) (ty := 3) Try.underlying27 hI4.out.map
  rw [HE1.out] at hlen
  go_wp2_with fail
  clear hlen
  refine (AInt.gLive ⟨aa, am, LA, cA⟩ R (some ⟨p, 0, none⟩) w4 hI4.out.fst).mono ?_
  rintro e w5 ⟨rfl, hb5⟩
  have hI5 := Lib.hid (hI4.out.below hb5)
  clear hb5 hI4
  go_wp2_with fail
  refine (AStr.gLive ⟨ba, bm, LB, cB⟩ R (some ⟨p, 0, none⟩) w5 hI5.out.snd).mono ?_
  rintro e w6 ⟨rfl, hb6⟩
  rw [HE2.out]
  have hI6 := Lib.hid (hI5.out.below hb6)
  clear hb6 hI5
  go_wp2_with fail
  refine (pLive_any p g f gens free w6 hI6.out.pool).mono ?_
  rw [HCC.out, HN.out]
  rintro e w7 ⟨rfl, hb7⟩
  have hI7 := Lib.hid (hI6.out.below hb7)
  clear hb7 hI6
  go_wp2_with fail
  refine (pRoom_any p g f gens free q w7 hI7.out.pool).mono ?_
  rw [HCC.out]
  rintro e w8 ⟨rfl, hb8⟩
  have hI8 := Lib.hid (hI7.out.below hb8)
  clear hb8 hI7
  go_wp2_with fail
  refine (pRoom_any p g f gens free c w8 hI8.out.pool).mono ?_
  rw [HCC.out, decide_eq_true (Int.le_refl _)]
  rintro e w9 ⟨rfl, hb9⟩
  have hI9 := Lib.hid (hI8.out.below hb9)
  clear hb9 hI8
  go_wp2_with fail
  refine (pRoom_any p g f gens free (c + 1) w9 hI9.out.pool).mono ?_
  rw [HCC.out, show decide ((c : Int) + 1 ≤ c) = false from decide_eq_false (by omega)]
  rintro e w10 ⟨rfl, hb10⟩
  have hI10 := Lib.hid (hI9.out.below hb10)
  clear hb10 hI9
  go_wp2_with fail
  go_loopw [14] (fun i wr => ∃ (k : Nat) (free' : List Bool) (LA' : List AEnt) (cA' : Nat), i = .int .i64 k ∧ k + free'.count true = c ∧ DrI w1 wr n base R p g f aa am ba bm gens free' LA' LB cA' cB) (fun i _ => c - (intOf i).toNat)
  case atStart => exact ⟨0, free, LA, cA, rfl, by rw [HCC.out]; omega, ⟨hI10.out.bel, hI10.out.siz, hI10.out.pool, hI10.out.fst, hI10.out.snd, hI10.out.st.inA, hI10.out.num⟩⟩
  case round =>
    obtain ⟨k, free', LA', cA', rfl, hkc, hD⟩ := hrel
    clear hI10
    replace hD := Lib.hid hD
    by_cases hlt : k < c
    · have hcall := hD.out.alloc k hK (List.count_pos_iff.1 (by omega))
      have hin := List.count_pos_iff.1 (show 0 < free'.count true by omega)
      have hcs := count_set_false' free' _ (idx_true hin).1 (idx_true hin).2
      replace hcall := Lib.hid hcall
      replace hcs := Lib.hid hcs
      clear hin
      replace hkc := Lib.hid hkc
      go_wp2_with fail
      refine hcall.out.mono ?_
      clear hcall
      rintro e wq ⟨rfl, LA'', cA'', hD'⟩
      go_wp2_with fail
      go_roundw
      case rel => exact ⟨k + 1, _, LA'', cA'', by go_num, by have := hcs.out; have := hkc.out; omega, hD'.below ((Below.refl _ _).alloc (Nat.le_refl _) _)⟩
      case measure => simp [intOf]; omega
    · have hc0 : free'.count true = 0 := by omega
      have hkk : (k : Int) = c := by omega
      replace hkc := Lib.hid hkc
      have hn : true ∉ free' := fun hm => by have := List.count_pos_iff.2 hm; omega
      replace hc0 := Lib.hid hc0
      go_wp2_with fail
      refine (AStr.gAlloc_full ⟨ba, bm, LB, cB⟩ p g f R gens free' _ wr hD.out.snd hD.out.pool hn).mono ?_
      rintro e w11 ⟨rfl, hb11⟩
      have hD11 := Lib.hid (hD.out.below hb11)
      clear hb11 hD hn
      go_wp2_with fail
      have hD12 := Lib.hid (hD11.out.below ((Below.refl _ _).alloc (Nat.le_refl _) (Obj.cells #[Value.int IntKind.i64 0, Value.int IntKind.u64 0] 40)))
      clear hD11
      generalize w11.alloc (Obj.cells #[Value.int IntKind.i64 0, Value.int IntKind.u64 0] 40) = w12 at hD12 ⊢
      refine (pFree_any p g f gens free' w12 hD12.out.pool).mono ?_
      rw [hc0.out]
      rintro e w13 ⟨rfl, rfl⟩
      go_wp2_with fail
      refine (pLive_any p g f gens free' w12 hD12.out.pool).mono ?_
      rw [hc0.out, hD12.out.num]
      rintro e w14 ⟨rfl, hb14⟩
      have hD14 := Lib.hid (hD12.out.below hb14)
      clear hb14 hD12
      go_wp2_with fail
      refine (pRoom_any p g f gens free' 0 w14 hD14.out.pool).mono ?_
      rw [hc0.out]
      rintro e w15 ⟨rfl, hb15⟩
      have hD15 := Lib.hid (hD14.out.below hb15)
      clear hb15 hD14
      go_wp2_with fail
      refine (pRoom_any p g f gens free' 1 w15 hD15.out.pool).mono ?_
      rw [hc0.out]
      rintro e w16 ⟨rfl, hb16⟩
      have hD16 := Lib.hid (hD15.out.below hb16)
      clear hb16 hD15
      go_wp2_with fail
      refine (pRoom_any p g f gens free' (-1) w16 hD16.out.pool).mono ?_
      rw [hc0.out]
      rintro e w17 ⟨rfl, hb17⟩
      have hD17 := Lib.hid (hD16.out.below hb17)
      clear hb17 hD16
      go_wp2_with fail
      go_ret
      exact ⟨rfl, (HB1.out.trans (hD17.out.bel.mono HB1.out.size))⟩
end Go.Proofs.Ytoknkedmpdcinaa
