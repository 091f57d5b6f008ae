/- The walk of the law ArtWalks. -/
import Derived.Test.YtmhlokomlngdmaaArtLs
namespace Go.Proofs.Ytmhlokomlngdmaa
open Go.RowKit
theorem pair_cells {w : World} {a : Option Addr} {c : Nat} {C : Cont} (h : At w 2 pcel a c C) {i : Nat} {x : Str × Str} (hx : C[i]? = some x) :
    ∃ b o, a = some ⟨b, o, none⟩ ∧ b < w.heap.size ∧ C.length ≤ c ∧ c ≤ 9223372036854775807 ∧ w.cell? ⟨b, o + i * 2, none⟩ = some (.string x.1) ∧ w.cell? ⟨b, o + i * 2 + 1, none⟩ = some (.string x.2) := by
  obtain ⟨b, o, e, h1, h2, h3, h4⟩ := h.some (by have := (List.getElem?_eq_some_iff.1 hx).1; omega)
  exact ⟨b, o, e, h1, h2, h3, by simpa using h4 i x hx 0 _ rfl, h4 i x hx 1 _ rfl⟩
set_option maxRecDepth 100000 in
set_option maxHeartbeats 4000000 in
theorem walksLaw_walk (s : Option Addr) (len cap : Nat) (rows : List (List Value)) (key : ByteArray) (w : World) (hr : IsFlat [.inl .u8, .inr false, .inr false, .inr true] w s len rows) (hk : key.size ≤ maxLen) :
    Calls Try.prog 3 #[.slice s len cap, .string key] w fun e w' => e = .returned (.bool true) ∧ Below w.heap.size w w' := by
  have hlen : len ≤ maxLen := by
    rcases hr with ⟨h0, _⟩ | ⟨_, _, _, h1, _⟩
    · rw [h0]; exact Nat.zero_le _
    · exact h1
  obtain ⟨L, rfl, hL, hsz⟩ := acts_of_flat hr
  clear hr
  have hGr := great12_any s cap L w hL hsz hlen
  have hkm := Lib.hid hk
  unfold maxLen at hk hlen
  replace hL := Lib.hid hL
  replace hsz := Lib.hid hsz
  go_enter Try.func3, Try.ntmps3
  go_wp2_with fail
  refine hGr.mono ?_
  clear hGr
  rintro e w2 ⟨rfl | ⟨rfl, h150, hsm⟩, hb2⟩
  · have hAw := awake12_any w2
    replace hb2 := Lib.hid hb2
    go_wp2_with fail
    refine hAw.mono ?_
    clear hAw
    rintro e w3 ⟨rfl, hb3⟩
    have hb := Lib.hid (hb2.out.trans (hb3.mono hb2.out.size))
    clear hb3
    go_wp2_with fail
    go_ret
    exact ⟨rfl, hb.out⟩
  by_cases h60 : 60 < key.size
  · have hd : (60 : Int) < (key.size : Int) := by omega
    have hAw := awake12_any w2
    replace hb2 := Lib.hid hb2
    replace hsm := Lib.hid hsm
    go_wp2_with fail
    refine hAw.mono ?_
    clear hAw
    rintro e w3 ⟨rfl, hb3⟩
    have hb := Lib.hid (hb2.out.trans (hb3.mono hb2.out.size))
    clear hb3
    go_wp2_with fail
    go_ret
    exact ⟨by simp, hb.out⟩
  have hd : ¬ (60 : Int) < (key.size : Int) := by omega
  have hRm := room12_any w2
  have hL2 := Lib.hid (hL.out.below hb2)
  replace hb2 := Lib.hid hb2
  replace hsm := Lib.hid hsm
  go_wp2_with fail
  refine hRm.mono ?_
  clear hRm
  rintro e w3 ⟨p, t, rfl, hT3⟩
  have hPl := plays12_any hT3 s cap L hL2.out hsz.out hsm.out h150
  replace hT3 := Lib.hid hT3
  go_wp2_with fail
  refine hPl.mono ?_
  clear hPl
  rintro e w4 ⟨rfl, hT4⟩
  obtain ⟨C, hC⟩ : ∃ C, C = play12 4096 [] L := ⟨_, rfl⟩
  rw [← hC] at hT4
  have hcs := hT4.srt
  have hcl := hT4.len_le.1
  have hAl := hT4.all
  replace hcs := Lib.hid hcs
  replace hT4 := Lib.hid hT4
  clear hC
  go_wp2_with fail
  refine hAl.mono ?_
  clear hAl
  rintro e w5 ⟨aa, ac, rfl, hra, hb5⟩
  have hT5 := hT4.out.below hb5
  have hNx := hT5.next s0 false
  rw [cnext_first] at hNx
  have hpc := Lib.hid fun W (hW : Below w5.heap.size w5 W) i x hx => pair_cells (hra.at'.below hW) (i := i) (x := x) hx
  obtain ⟨n, hn⟩ : ∃ n, n = C.length := ⟨_, rfl⟩
  rw [← hn] at hcl ⊢
  replace hn := Lib.hid hn
  replace hra := Lib.hid hra
  replace hb5 := Lib.hid hb5
  replace hT5 := Lib.hid hT5
  go_wp2_with fail
  refine hNx.mono ?_
  clear hNx
  rintro e w6 ⟨rfl, hb6⟩
  replace hb6 := Lib.hid hb6
  go_upto_block 0 with fail
  go_cut [7, 9, 10, 11] (fun v7 v9 v10 v11 wz => ∃ nk nv, v7 = .bool false ∧ v9 = .string nk ∧ v10 = .string nv ∧ v11 = .bool false ∧ Below w5.heap.size w5 wz)
  case first =>
    go_wp2_with fail
    go_loopg [7, 9, 10, 11, 12] n (fun gk v7 v9 v10 v11 v12 wr => ∃ k : Nat, gk = n - k ∧ k ≤ n ∧ v12 = .int .i64 k ∧ v7 = .bool (C[k]?).isSome ∧ v9 = .string (fK C[k]?) ∧ v10 = .string (fX C[k]?) ∧ v11 = .bool false ∧ Below w5.heap.size w5 wr)
    case atStart => exact ⟨0, rfl, Nat.zero_le _, rfl, rfl, rfl, rfl, rfl, hb6.out⟩
    case round =>
      obtain ⟨k, rfl, hk, rfl, rfl, rfl, rfl, rfl, hB⟩ := hrel
      by_cases hlt : k < n
      · obtain ⟨x, hx⟩ : ∃ x, C[k]? = some x := ⟨_, List.getElem?_eq_getElem (by have := hn.out; omega)⟩
        obtain ⟨b, o, rfl, hb1, hl1, hc1, k0, k1⟩ := hpc.out wr hB k x hx
        have hNx := (hT5.out.below hB).next x.1 true
        rw [cnext_next hcs.out hx] at hNx
        rw [hx]
        obtain ⟨p1, q1⟩ := x
        rw [show fK (some (p1, q1)) = p1 from rfl, show fX (some (p1, q1)) = q1 from rfl]
        simp only [Option.isSome_some]
        simp only at k0 k1 hNx
        have hA2 : (k : Int) < (n : Int) := by omega
        have hA3 : (0 : Int) ≤ (k : Int) := by omega
        have hw1 : IntKind.i64.wrap ((k : Int) + 1) = (k : Int) + 1 := IntWalk.i64_in _ (by omega)
        have hl2 : n ≤ ac := by have := hn.out; omega
        replace hB := Lib.hid hB
        replace hl1 := Lib.hid hl1
        replace hx := Lib.hid hx
        obtain ⟨ok, hok⟩ : ∃ ok, ok = (C[k + 1]?).isSome := ⟨_, rfl⟩
        obtain ⟨fk, hfk⟩ : ∃ fk, fk = fK C[k + 1]? := ⟨_, rfl⟩
        obtain ⟨fx, hfx⟩ : ∃ fx, fx = fX C[k + 1]? := ⟨_, rfl⟩
        rw [← hok, ← hfk, ← hfx] at hNx
        replace hok := Lib.hid hok
        replace hfk := Lib.hid hfk
        replace hfx := Lib.hid hfx
        go_wp2_with fail
        refine hNx.mono ?_
        clear hNx
        rintro e w7 ⟨rfl, hb7⟩
        have hB7 := Lib.hid (hB.out.trans (hb7.mono hB.out.size))
        clear hb7 k0 k1
        go_wp2_with fail
        go_roundg (n - (k + 1))
        case rel => exact ⟨k + 1, rfl, by omega, by go_num, by rw [hok.out], by rw [hfk.out], by rw [hfx.out], rfl, hB7.out⟩
        case measure => omega
      · obtain rfl : k = n := by omega
        have hno : C[k]? = none := List.getElem?_eq_none (by have := hn.out; omega)
        rw [hno]
        replace hB := Lib.hid hB
        replace hno := Lib.hid hno
        go_wp2_with fail
        go_meet
        exact ⟨_, _, rfl, rfl, rfl, rfl, hB.out⟩
  case rest =>
    obtain ⟨nk0, nv0, rfl, rfl, rfl, rfl, hbc⟩ := hcut
    obtain ⟨wd, hwd⟩ : ∃ wd, wd = wc := ⟨_, rfl⟩
    rw [← hwd] at hbc ⊢
    clear hwd
    have hNk := (hT5.out.below hbc).next key false
    have hAw := Lib.hid fun W => awake12_any W
    have hLs := Lib.hid fun x W => less_any x key (.inr hkm.out) W
    obtain ⟨ok, hok⟩ : ∃ ok, ok = (cnext C key false).isSome := ⟨_, rfl⟩
    obtain ⟨fk, hfk⟩ : ∃ fk, fk = fK (cnext C key false) := ⟨_, rfl⟩
    obtain ⟨fx, hfx⟩ : ∃ fx, fx = fX (cnext C key false) := ⟨_, rfl⟩
    rw [← hok, ← hfk, ← hfx] at hNk
    replace hok := Lib.hid hok
    replace hfk := Lib.hid hfk
    replace hfx := Lib.hid hfx
    have hB0 : Below w.heap.size w w5 := hb2.out.trans (hT5.out.bel.mono hb2.out.size)
    replace hB0 := Lib.hid hB0
    replace hbc := Lib.hid hbc
    go_wp2_with fail
    refine hNk.mono ?_
    clear hNk
    rintro e w7 ⟨rfl, hb7⟩
    have hB7 := Lib.hid (hbc.out.trans (hb7.mono hbc.out.size))
    clear hb7
    go_wp2_with fail
    go_loopg [13] n (fun gk v13 wr => ∃ k : Nat, gk = n - k ∧ k ≤ n ∧ v13 = .int .i64 k ∧ (∀ i x, i < k → C[i]? = some x → slt x.1 key = true) ∧ Below w5.heap.size w5 wr)
    case atStart => exact ⟨0, rfl, Nat.zero_le _, rfl, fun i x hi => by omega, hB7.out⟩
    case round =>
      clear hB7
      obtain ⟨k, rfl, hk2, rfl, hlo, hB⟩ := hrel
      by_cases hlt : k < n
      · obtain ⟨x, hx⟩ : ∃ x, C[k]? = some x := ⟨_, List.getElem?_eq_getElem (by have := hn.out; omega)⟩
        obtain ⟨b, o, rfl, hb1, hl1, hc1, k0, k1⟩ := hpc.out wr hB k x hx
        have hls := hLs.out x.1 wr
        have hA2 : (k : Int) < (n : Int) := by omega
        have hA3 : (0 : Int) ≤ (k : Int) := by omega
        have hw1 : IntKind.i64.wrap ((k : Int) + 1) = (k : Int) + 1 := IntWalk.i64_in _ (by omega)
        have hl2 : n ≤ ac := by have := hn.out; omega
        replace hl1 := Lib.hid hl1
        cases hsl : slt x.1 key with
        | true =>
          rw [hsl] at hls
          have hlo2 : Hid (∀ i y, i < k + 1 → C[i]? = some y → slt y.1 key = true) := Lib.hid fun i y hi hy => by
            by_cases e : i = k
            · subst e
              rw [hx] at hy
              injection hy with hy
              rw [← hy]; exact hsl
            · exact hlo i y (by omega) hy
          obtain ⟨p1, q1⟩ := x
          simp only at k0 k1 hls
          replace hsl := Lib.hid hsl
          replace hB := Lib.hid hB
          replace hx := Lib.hid hx
          replace hlo := Lib.hid hlo
          go_wp2_with fail
          refine hls.mono ?_
          clear hls
          rintro e w8 ⟨rfl, hb8⟩
          have hB8 := Lib.hid (hB.out.trans (hb8.mono hB.out.size))
          clear hb8 k0 k1
          go_wp2_with fail
          go_roundg (n - (k + 1))
          case rel => exact ⟨k + 1, rfl, by omega, by go_num, hlo2.out, hB8.out⟩
          case measure => omega
        | false =>
          rw [hsl] at hls
          have hcn : cnext C key false = some x := by
            rw [← hx]
            refine cnext_at (fun i p hi hp => ?_) (fun p hp => ?_)
            · unfold abv
              simp [sle, hlo i p hi hp]
            · rw [hx] at hp
              injection hp with hp
              unfold abv
              simp [sle, ← hp, hsl]
          have e1 := hok.out
          have e2 := hfk.out
          have e3 := hfx.out
          rw [hcn] at e1 e2 e3
          obtain ⟨p1, q1⟩ := x
          simp only [Option.isSome_some] at e1
          rw [show fK (some (p1, q1)) = p1 from rfl] at e2
          rw [show fX (some (p1, q1)) = q1 from rfl] at e3
          subst e1 e2 e3
          simp only at k0 k1 hls
          have hk0 := fun W (hW : Below wr.heap.size wr W) => keep hW k0
          have hk1 := fun W (hW : Below wr.heap.size wr W) => keep hW k1
          replace hk0 := Lib.hid hk0
          replace hk1 := Lib.hid hk1
          replace hsl := Lib.hid hsl
          replace hB := Lib.hid hB
          replace hx := Lib.hid hx
          replace hlo := Lib.hid hlo
          replace hcn := Lib.hid hcn
          go_wp2_with fail
          refine hls.mono ?_
          clear hls
          rintro e w8 ⟨rfl, hb8⟩
          have j0 := hk0.out w8 hb8
          have j1 := hk1.out w8 hb8
          have hb9 := Nat.lt_of_lt_of_le hb1 hb8.size
          have hB8 := Lib.hid (hB.out.trans (hb8.mono hB.out.size))
          have hAw8 := hAw.out w8
          clear hb8 k0 k1
          go_wp2_with fail
          refine hAw8.mono ?_
          clear hAw8
          rintro e w9 ⟨rfl, hb9⟩
          have hB9 := Lib.hid (hB0.out.trans ((hB8.out.trans (hb9.mono hB8.out.size)).mono hB0.out.size))
          clear hb9
          go_wp2_with fail
          go_ret
          exact ⟨by simp, hB9.out⟩
      · obtain rfl : k = n := by omega
        have hcn : cnext C key false = none := by
          rw [show (none : Option (Str × Str)) = C[k]? from (List.getElem?_eq_none (by have := hn.out; omega)).symm]
          refine cnext_at (fun i p hi hp => ?_) (fun p hp => ?_)
          · unfold abv
            simp [sle, hlo i p hi hp]
          · have := (List.getElem?_eq_some_iff.1 hp).1
            have := hn.out
            omega
        have e1 := hok.out
        rw [hcn] at e1
        simp only [Option.isSome_none] at e1
        subst e1
        have hAw8 := hAw.out wr
        replace hB := Lib.hid hB
        replace hlo := Lib.hid hlo
        replace hcn := Lib.hid hcn
        go_wp2_with fail
        refine hAw8.mono ?_
        clear hAw8
        rintro e w9 ⟨rfl, hb9⟩
        have hB9 := Lib.hid (hB0.out.trans ((hB.out.trans (hb9.mono hB.out.size)).mono hB0.out.size))
        clear hb9
        go_wp2_with fail
        go_ret
        exact ⟨by simp, hB9.out⟩
end Go.Proofs.Ytmhlokomlngdmaa
