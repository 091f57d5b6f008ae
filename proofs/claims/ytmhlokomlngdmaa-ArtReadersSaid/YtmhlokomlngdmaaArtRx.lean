/- A reader of the trie's law, at whose looks things are done: Get, Next, and what All tells. -/
import Derived.Test.YtmhlokomlngdmaaArtRt
import Derived.Test.YtmhlokomlngdmaaArtTl
import Derived.Deep.CutBlock
import Derived.Deep.DeepCutAuto
namespace Go.Proofs.Ytmhlokomlngdmaa
open Go.RowKit
section
variable {w0 w w1 w' : World} {V : VP} {T T' : TS} {C C' : Cont} {n d d' wk : Nat}
theorem LVI.reader (h : LVI w0 V w T C n d) (hd : d ≤ n) : SV w0 V w.heap.size ⟨V.B.length - n, d, mrk V w.heap.size T.ρ, T.F, C, T.K, n⟩ false (w.alloc (.cells #[.pointer (some ⟨V.a, 0, none⟩), .func (.func 15) #[] (visV V), .bool false] 72)) :=
  ⟨T, h.below ((Below.refl _ _).alloc (Nat.le_refl _) _), rfl, rfl, rfl, rfl, hd, h.tr.am.bw.ro.far _ (Nat.le_refl _), h.tr.am.bw.ro.bel.size, heap_alloc_new _ _⟩
def VGetEnd (w0 : World) (V : VP) (C : Cont) (n d : Nat) (key : Str) (e : Ending) (w' : World) : Prop :=
  ∃ v found again T' C' n' d', e = .returned (.tuple #[.string v, .bool found, .bool again]) ∧ LVI w0 V w' T' C' n' d' ∧ d' ≤ n' ∧ n + 1 ≤ n' ∧ n' ≤ n + key.size + 1 ∧ d ≤ d' ∧ (d' = d → again = false ∧ v = (cget C key).getD s0 ∧ found = (cget C key).isSome)
theorem vis_get (hP : VPok w0 V) (h : LVI w0 V w T C n d) (hd : d ≤ n) (key : Str) (hk : key.size ≤ big) (hn : n ≤ 1000000000000000) :
    Calls Try.prog 17 #[.pointer (some ⟨V.t, 0, none⟩), .string key, .func (.func 15) #[] (visV V)] w (VGetEnd w0 V C n d key) := by
  obtain ⟨_, c1, c2, c3, _, c5, hq⟩ := h.tr.am.cells
  rw [h.ht] at c1 c2 c3 c5 hq
  rw [h.hr] at c2 c3
  rw [h.ha] at c1
  refine (get_gen (.inr ⟨_, _, _, rfl⟩) c1 c2 c3 c5 hq (rdr_vis hP) (h.reader hd) key hk (by unfold big at hk; unfold KM; simp only; omega)).mono ?_
  rintro e w' ⟨s', g', v, found, again, rfl, ⟨T', hS'⟩, hst, ⟨h1, h2⟩, hex⟩
  exact ⟨v, found, again, T', _, _, _, rfl, hS'.I, hS'.dk, h1, h2, hst.d, hex⟩
def VNextEnd (w0 : World) (V : VP) (n : Nat) (e : Ending) (w' : World) : Prop :=
  ∃ k x ok again T' C' n' d', e = .returned (.tuple #[.string k, .string x, .bool ok, .bool again]) ∧ LVI w0 V w' T' C' n' d' ∧ d' ≤ n' ∧ n ≤ n' ∧ n' ≤ n + 120000000000
theorem vis_next (hP : VPok w0 V) (h : LVI w0 V w T C n d) (hd : d ≤ n) (key : Str) (after : Bool) (hn : n ≤ 1000000000000000) :
    Calls Try.prog 13 #[.pointer (some ⟨V.t, 0, none⟩), .string key, .bool after, .func (.func 15) #[] (visV V)] w (VNextEnd w0 V n) := by
  obtain ⟨_, c1, c2, c3, _, c5, hq⟩ := h.tr.am.cells
  rw [h.ht] at c1 c2 c3 c5 hq
  rw [h.hr] at c2 c3
  rw [h.ha] at c1
  have hl := hP.len
  have hb : bS 100000 (V.B.length - n + 5000) ⟨V.B.length - n, d, mrk V w.heap.size T.ρ, T.F, C, T.K, n⟩ ≤ n + 120000000000 := by
    unfold bS
    simp only
    omega
  refine (next_gen (.inr ⟨_, _, _, rfl⟩) c1 c2 c3 c5 hq (rdr_vis hP) (h.reader hd) (by simp only; omega) (by unfold KM; exact Nat.le_trans hb (by omega)) key after).mono ?_
  rintro e w' ⟨s', g', f, again, rfl, ⟨T', hS'⟩, hst, h2, hex⟩
  exact ⟨_, _, _, again, T', _, _, _, rfl, hS'.I, hS'.dk, hst.k, Nat.le_trans h2 hb⟩
theorem str_beq (a b : Str) : (ByteArray.toList a == ByteArray.toList b) = decide (a = b) := by
  rw [ByteArray.toList_eq, ByteArray.toList_eq]
  by_cases h : a = b
  · subst h
    simp
  · rw [decide_eq_false h]
    have : ¬ a.data.toList = b.data.toList := fun e => h (bl_inj e)
    simpa using this
theorem pair_cellsR {w : World} {a : Option Addr} {c : Nat} {C : Cont} (h : At w 2 pcel a c C) {i : Nat} {x : Str × Str} (hx : C[i]? = some x) :
    ∃ b o, a = some ⟨b, o, none⟩ ∧ b < w.heap.size ∧ C.length ≤ c ∧ c ≤ 9223372036854775807 ∧ w.cell? ⟨b, o + i * 2, none⟩ = some (.string x.1) ∧ w.cell? ⟨b, o + i * 2 + 1, none⟩ = some (.string x.2) := by
  obtain ⟨b, o, e, h1, h2, h3, h4⟩ := h.some (by have := (List.getElem?_eq_some_iff.1 hx).1; omega)
  exact ⟨b, o, e, h1, h2, h3, by simpa using h4 i x hx 0 _ rfl, h4 i x hx 1 _ rfl⟩
set_option maxRecDepth 100000 in
set_option maxHeartbeats 4000000 in
theorem value12_any (h : AT w0 w T C) (key : Str) : Calls Try.prog 16 #[.pointer (some ⟨T.t, 0, none⟩), .string key] w fun e w' => e = .returned (.tuple #[.string ((cget C key).getD s0), .bool (cget C key).isSome]) ∧ Below w.heap.size w w' := by
  have hAl := h.all
  have hcs := h.ct.srt
  have hcl := h.len_le.2
  obtain ⟨gv, hgv⟩ : ∃ gv, gv = (cget C key).getD s0 := ⟨_, rfl⟩
  obtain ⟨gs, hgs⟩ : ∃ gs, gs = (cget C key).isSome := ⟨_, rfl⟩
  have hfound : Hid (∀ (k : Nat) (x : Str × Str), C[k]? = some x → x.1 = key → gv = x.2 ∧ gs = true) := Lib.hid fun k x hx he => by
    have := cget_at hcs hx
    rw [he] at this
    rw [hgv, hgs, this]
    exact ⟨rfl, rfl⟩
  have hnone : Hid ((∀ (j : Nat) (y : Str × Str), C[j]? = some y → y.1 ≠ key) → gv = s0 ∧ gs = false) := Lib.hid fun hall => by
    have : cget C key = none := (cget_none_iff hcs).2 fun v hm => by
      obtain ⟨j, hj⟩ := List.getElem?_of_mem hm
      exact hall j _ hj rfl
    rw [hgv, hgs, this]
    exact ⟨rfl, rfl⟩
  rw [← hgv, ← hgs]
  clear hgv hgs h hcs
  go_enter Try.func16, Try.ntmps16
  go_wp2_with fail
  refine hAl.mono ?_
  clear hAl
  rintro e w5 ⟨aa, ac, rfl, hra, hb5⟩
  have hpc := Lib.hid fun W (hW : Below w5.heap.size w5 W) i x hx => pair_cellsR (hra.at'.below hW) (i := i) (x := x) hx
  obtain ⟨n, hn⟩ : ∃ n, n = C.length := ⟨_, rfl⟩
  rw [← hn] at hcl ⊢
  replace hn := Lib.hid hn
  replace hb5 := Lib.hid hb5
  clear hra
  go_wp2_with fail
  go_loopg [7] n (fun gk v7 wr => ∃ k : Nat, gk = n - k ∧ k ≤ n ∧ v7 = .int .i64 k ∧ (∀ (j : Nat) (y : Str × Str), j < k → C[j]? = some y → y.1 ≠ key) ∧ wr = w5)
  case atStart => exact ⟨0, rfl, Nat.zero_le _, rfl, fun j y hj => absurd hj (Nat.not_lt_zero _), rfl⟩
  case round =>
    obtain ⟨k, rfl, hk, rfl, hno, hwr⟩ := hrel
    rw [hwr]
    clear hwr
    by_cases hlt : k < n
    · obtain ⟨x, hx⟩ : ∃ x, C[k]? = some x := ⟨_, List.getElem?_eq_getElem (by have := hn.out; omega)⟩
      obtain ⟨b, o, rfl, hb1, hl1, hc1, k0, k1⟩ := hpc.out w5 (Below.refl _ _) k x hx
      have hf := hfound.out k x hx
      obtain ⟨p1, q1⟩ := x
      simp only at k0 k1 hf
      have hA2 : (k : Int) < (n : Int) := by omega
      have hA3 : (0 : Int) ≤ (k : Int) := by omega
      have hw1 : IntKind.i64.wrap ((k : Int) + 1) = (k : Int) + 1 := IntWalk.i64_in _ (by omega)
      have hl2 : n ≤ ac := by have := hn.out; omega
      replace hl1 := Lib.hid hl1
      by_cases he : p1 = key
      · obtain ⟨rfl, rfl⟩ := hf he
        subst he
        have hbe := (str_beq p1 p1).trans (decide_eq_true rfl)
        clear hno hx
        go_wp2_with fail
        refine bodyPost_ret (v := .tuple #[.string gv, .bool true]) (by simp [results, Try.results16, go_sem]) rfl ⟨rfl, hb5.out⟩
      · have hno2 : Hid (∀ (j : Nat) (y : Str × Str), j < k + 1 → C[j]? = some y → y.1 ≠ key) := Lib.hid fun j y hj hy => by
          rcases Nat.lt_or_ge j k with h1 | h1
          · exact hno j y h1 hy
          · obtain rfl : j = k := by omega
            rw [hx] at hy
            injection hy with hy
            rw [← hy]
            exact he
        have hbe := (str_beq p1 key).trans (decide_eq_false he)
        clear hno hx hf
        go_wp2_with fail
        go_roundg (n - (k + 1))
        case rel => exact ⟨k + 1, rfl, by omega, by go_num, hno2.out, rfl⟩
        case measure => omega
    · obtain rfl : k = n := by omega
      obtain ⟨rfl, rfl⟩ := hnone.out fun j y hy => hno j y (by have := (List.getElem?_eq_some_iff.1 hy).1; have := hn.out; omega) hy
      clear hno
      go_wp2_with fail
      refine ⟨rfl, .tuple #[.string s0, .bool false], by simp [results, Try.results16, go_sem]; rfl, rfl, hb5.out⟩
end
end Go.Proofs.Ytmhlokomlngdmaa
