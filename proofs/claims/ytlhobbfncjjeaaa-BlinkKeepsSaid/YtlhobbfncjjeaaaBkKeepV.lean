/- Next with a visit that counts: the contracts of BlinkKeeps' visit function, of a counted Next, of the helper 'most'. -/
import Derived.Test.YtlhobbfncjjeaaaBkKeepL
import Derived.Test.YtlhobbfncjjeaaaBkReadGet
import Derived.RegionCalls
import Derived.Shelf.Abstract
import Derived.Laws.BitsLemmas
namespace Go.Proofs.Ytlhobbfncjjeaaa
open Go.RowKit
section
variable {w0 w w' : World} {ρ ρ' : Nat → Nat} {P : Nat × Nat × Nat} {gens : List Int} {free : List Bool} {D : List ArD} {rs : List Nat} {rt i t : Nat} {d : ArD} {Ls : List Lev} {r : Hd} {size : Nat}
theorem Ars.ru0 (h : Ars w ρ (some P) gens free D) (hu : RU rs w w' ρ ρ') (hr : ∀ r, r ∈ rs → r = 0 ∨ (4 ≤ r ∧ r ≤ 9)) : Ars w' ρ' (some P) gens free D := by
  have hn : ∀ r, (1 ≤ r ∧ r ≤ 3) ∨ 10 ≤ r → r ∉ rs := fun r h1 h2 => by have := hr r h2; omega
  refine ⟨h.pool.ru hu (hn _ (by omega)) (hn _ (by omega)) (hn _ (by omega)), fun i d hd => ?_⟩
  have := h.ar i d hd
  exact this.ru hu (hn _ (by omega)) (hn _ (by omega)) (hn _ (by omega)) (fun e he => (this.th e he).2)
/-- Blocks of the law's own are written. -/
theorem BW.turn0 (h : BW w0 w ρ P gens free D) (hu : RU rs w w' ρ ρ') (hb : Below w0.heap.size w0 w') (hr : ∀ r, r ∈ rs → r = 0 ∨ (4 ≤ r ∧ r ≤ 9)) : BW w0 w' ρ' P gens free D :=
  ⟨⟨hb, fun k hk => by rw [hu.role k (Nat.lt_of_lt_of_le hk h.ro.bel.size)]; exact h.ro.old k hk, hu.far⟩, h.ars.ru0 hu hr⟩
theorem own_below {S : List Nat} (hb : Below w0.heap.size w0 w) (hu : Upd S w w') (hS : ∀ k, k ∈ S → k < w.heap.size → w0.heap.size ≤ k) : Below w0.heap.size w0 w' :=
  hb.trans ⟨hu.os, hu.tape, hu.output, hu.size, fun k hk => hu.block k (Nat.lt_of_lt_of_le hk hb.size) (fun hh => by have := hS k hh (Nat.lt_of_lt_of_le hk hb.size); omega)⟩
end
/-- Role 7 is taken from whoever has it. -/
def re7 (ρ : Nat → Nat) (k : Nat) : Nat := if ρ k = 7 then 0 else ρ k
theorem re7_of {ρ : Nat → Nat} {k m : Nat} (h : ρ k = m) (hm : m ≠ 7) : re7 ρ k = m := by unfold re7; rw [h, if_neg hm]
theorem re7_ne {ρ : Nat → Nat} {k : Nat} : re7 ρ k ≠ 7 := by unfold re7; split <;> omega
theorem FR.re7 {α : Type} {ρ : Nat → Nat} {a : Option Addr} {L : List α} (h : FR ρ a L) : FR (re7 ρ) a L := fun hn x hx => re7_of (h hn x hx) (by omega)
section
variable {w0 w w' : World} {ρ ρ' : Nat → Nat} {P : Nat × Nat × Nat} {gens : List Int} {free : List Bool} {D : List ArD} {rs : List Nat} {rt i t : Nat} {d : ArD} {Ls : List Lev} {r : Hd} {size : Nat}
theorem BW.re7 (h : BW w0 w ρ P gens free D) : BW w0 w (re7 ρ) P gens free D := by
  obtain ⟨p, g, f⟩ := P
  obtain ⟨⟨h1, h2, h3⟩, ⟨hp, r1, r2, r3⟩, h4⟩ := h
  refine ⟨⟨h1, fun k hk => re7_of (h2 k hk) (by omega), fun k hk => re7_of (h3 k hk) (by omega)⟩, ⟨hp, re7_of r1 (by omega), re7_of r2 (by omega), re7_of r3 (by omega)⟩, fun i d hd => ?_⟩
  obtain ⟨a1, a2, a3, a4, a5⟩ := h4 i d hd
  exact ⟨a1, a2, re7_of a3 (by omega), re7_of a4 (by omega), fun e he => ⟨re7_of (a5 e he).1 (by omega), (a5 e he).2⟩⟩
theorem Tr.re7 (h : Tr w ρ P D rt i t d Ls r size) : Tr w (re7 ρ) P D rt i t d Ls r size := by
  have h4 := h.rt4
  refine ⟨h.hd, h.ta, h.tc, h.rt4, re7_of h.rol (by omega), h.blk, h.top, fun x hx => ?_, h.nod, h.cnt, h.tow, h.thk⟩
  obtain ⟨e, e1, e2, e3, qka, qva, qha, qkc, qvc, qhc, e4, e5, f1, f2, f3⟩ := h.ent x hx
  exact ⟨e, e1, e2, e3, qka, qva, qha, qkc, qvc, qhc, e4, e5, f1.re7, f2.re7, f3.re7⟩
end
def cntVis (Ls : List Lev) : Vis Nat := ⟨fun _ => Ls, fun _ => [content Ls], fun s => s, fun _ => 0, fun s s' => s' = s + 1⟩
theorem cntVis_ok (Ls : List Lev) : VisOK (cntVis Ls) where
  evo := fun _ _ _ => Evo.refl _
  ms := fun _ _ _ => ⟨fun _ h => h, by simp [cntVis]⟩
  work := fun _ _ _ => ⟨Nat.le_refl _, fun _ => rfl⟩
  cnt := fun _ _ h => h
theorem cntVis_static (Ls : List Lev) : Static (cntVis Ls) := fun _ _ _ => rfl
def CntI (w0 : World) (ρ : Nat → Nat) (P : Nat × Nat × Nat) (gens : List Int) (free : List Bool) (D : List ArD) (rt i t : Nat) (d : ArD) (Ls : List Lev) (r : Hd) (size b s : Nat) (W : World) (ρ' : Nat → Nat) : Prop :=
  ρ' = ρ ∧ BW w0 W ρ P gens free D ∧ Tr W ρ P D rt i t d Ls r size ∧ ρ b = 7 ∧ W.heap[b]? = some (.cells #[.int .i64 (IntKind.i64.wrap (s : Int))] 3)
theorem keeps1_any {W : World} {b : Nat} {x : Int} (h : W.heap[b]? = some (.cells #[.int .i64 x] 3)) : Calls Try.prog 27 #[.pointer (some ⟨b, 0, none⟩)] W fun e W' => e = .returned (.tuple #[]) ∧ W' = W.setCell ⟨b, 0, none⟩ (.int .i64 (IntKind.i64.wrap (x + 1))) := by
  have k0 : W.cell? ⟨b, 0, none⟩ = some (.int .i64 x) := by rw [cell_of_heap h]; rfl
  have f0 : W.frozen? ⟨b, 0, none⟩ = false := frozen_of_heap h _
  have hq := heap_lt h
  clear h
  obtain ⟨y, hy⟩ : ∃ y, IntKind.i64.wrap (x + 1) = y := ⟨_, rfl⟩
  rw [hy]
  go_enter Try.func27, Try.ntmps27
  go_wp2_with fail
  go_end0
  exact ⟨rfl, rfl⟩
section
variable {w0 w : World} {ρ : Nat → Nat} {P : Nat × Nat × Nat} {gens : List Int} {free : List Bool} {D : List ArD} {rt i t b : Nat} {d : ArD} {Ls : List Lev} {r : Hd} {size : Nat}
theorem cnt_visits (hs : Sane Ls) : VisW (cntVis Ls) w0 t 27 #[] #[.pointer (some ⟨b, 0, none⟩)] [7] (CntI w0 ρ P gens free D rt i t d Ls r size b) where
  r0 := by simp
  tree := by
    rintro s W ρ' ⟨rfl, h1, h2, h3, h4⟩
    exact ⟨hs, by simp [cntVis], P, gens, free, D, rt, i, d, r, size, h1, h2⟩
  own := by
    rintro s W W' ρ' S ⟨rfl, h1, h2, h3, h4⟩ hu hS
    have hr : RU [0] W W' ρ' ρ' := RU.upd h1.ro hu (fun k hk hl => by simp [(hS k hk hl).2])
    refine ⟨rfl, h1.turn0 hr (own_below h1.ro.bel hu fun k hk hl => (hS k hk hl).1) (by simp), h2.ru hr (by simp) ?_, h3, hr.heap h4 (by rw [h3]; simp)⟩
    have := h2.rt4
    simp
    omega
  enter := enters_of Try.func27 (by kernel_rfl) rfl
  call := by
    rintro s W ρ' ⟨rfl, h1, h2, h3, h4⟩
    refine (keeps1_any h4).mono ?_
    rintro e W' ⟨rfl, rfl⟩
    have hu : Upd [b] W (W.setCell ⟨b, 0, none⟩ (.int .i64 (IntKind.i64.wrap (IntKind.i64.wrap (s : Int) + 1)))) := (Upd.refl _ _).setCell (by simp) _
    have hr : RU [7] W (W.setCell ⟨b, 0, none⟩ (.int .i64 (IntKind.i64.wrap (IntKind.i64.wrap (s : Int) + 1)))) ρ' ρ' := RU.upd h1.ro hu (fun k hk hl => by simp at hk; subst hk; simp [h3])
    refine ⟨rfl, s + 1, ρ', rfl, ⟨rfl, h1.turn0 hr (own_below h1.ro.bel hu fun k hk hl => ?_) (by simp), h2.ru hr (by simp) ?_, h3, ?_⟩, hr⟩
    · simp at hk
      subst hk
      exact h1.ro.ge (by rw [h3]; simp)
    · have := h2.rt4
      simp
      omega
    · rw [heap_self, h4]
      have : IntKind.i64.wrap (IntKind.i64.wrap (s : Int) + 1) = IntKind.i64.wrap ((s + 1 : Nat) : Int) := by
        rw [IntKind.wrap_i64, IntKind.wrap_i64, IntKind.wrap_i64]
        omega
      rw [this]
      rfl
end
/-- A counted Next leaves the tree, and how many visits there were. -/
def CountEnd (w : World) (b : Nat) (C : Cont) (fat : Bool) (key : Str) (after : Bool) (e : Ending) (w' : World) : Prop :=
  ∃ n : Int, e = .returned (nextV (cnext C key after)) ∧ Below w.heap.size w w' ∧ w'.heap[b]? = some (.cells #[.int .i64 n] 3) ∧ (fat = true → n ≤ 2 + (((C.length + 1) * (C.length + 1)).log2 : Nat))
theorem TreeIs.count {w0 w W : World} {p t c0 lv b : Nat} {C : Cont} {fat : Bool} (h : TreeIs w0 w p t C c0 lv fat) (hlv : lv ≤ 10000) (hb : Below w.heap.size w W) (hbb : w.heap.size ≤ b) (hbox : W.heap[b]? = some (.cells #[.int .i64 0] 3)) (key : Str) (after : Bool) :
    Calls Try.prog 17 #[.pointer (some ⟨t, 0, none⟩), .string key, .bool after, .func (.func 27) #[] #[.pointer (some ⟨b, 0, none⟩)]] W (CountEnd w b C fat key after) := by
  have hsrt := h.sorted
  obtain ⟨ρ, P, gens, free, D, rt, i, d, Ls, r, h1, h2, h3, h4, h5, h6, h7, h8⟩ := h
  obtain ⟨g1, g2⟩ := TreeIs.hll h3.tow h3.thk h7 hlv
  have hsn : Sane Ls := ⟨h3.tow, h4, g1, g2⟩
  have hsz := h3.tow.size h3.thk
  have hge := fun hf h2l => h3.tow.ge2 (h8 hf) h2l
  rw [h5] at hge
  replace h2 := h2.re7
  replace h3 := h3.re7
  have hbl := heap_lt hbox
  have hru : RU [] w W (re7 ρ) (mark (re7 ρ) b 7) := (RU.below h2.ro hb).mark hbb hbl
  have h2' : BW w0 W (mark (re7 ρ) b 7) P gens free D := h2.turn0 hru (h2.ro.bel.trans (hb.mono h2.ro.bel.size)) (by simp)
  have hI : CntI w0 (mark (re7 ρ) b 7) P gens free D rt i t d Ls r C.length b 0 W (mark (re7 ρ) b 7) := ⟨rfl, h2', h3.ru hru (by simp) (by simp), mark_self, hbox⟩
  refine (vis_next (cntVis_ok Ls) (cnt_visits hsn) hI key after).mono ?_
  rintro e w' ⟨s', ρ', o, rfl, hN, ⟨rfl, h2'', h3'', h7', hbox'⟩, hR⟩
  refine ⟨_, by rw [hN.eq hsrt h5 (fun c hc => by simpa [cntVis, h5] using hc)], ⟨hR.os.trans hb.os, hR.tape.trans hb.tape, hR.output.trans hb.output, Nat.le_trans hb.size hR.size, fun k hk => (hR.block k (Nat.lt_of_lt_of_le hk hb.size) ?_).trans (hb.block k hk)⟩, hbox', fun hf => ?_⟩
  · rw [mark_other (by omega)]
    simp [re7_ne]
  · have hst := hN.sta (cntVis_static Ls) (h8 hf)
    simp only [cntVis] at hst
    obtain ⟨s1, s2, s3⟩ := hsz
    have hH : s' ≤ 2 + ((C.length + 1) * (C.length + 1)).log2 := by
      by_cases h1' : Ls.length = 1
      · omega
      · have e1 : 2 ≤ 2 ^ (Ls.length - 1) := by
          have : 2 ^ 1 ≤ 2 ^ (Ls.length - 1) := Nat.pow_le_pow_right (by omega) (by omega)
          omega
        have e2 := hge hf (by omega)
        have e3 : 2 ^ Ls.length ≤ C.length := by
          have : 2 ^ Ls.length = 2 ^ (Ls.length - 1) * 2 := by rw [← Nat.pow_succ]; congr 1; omega
          omega
        have e4 : 2 ^ Ls.length ≤ (C.length + 1) * (C.length + 1) := by
          have : C.length + 1 ≤ (C.length + 1) * (C.length + 1) := Nat.le_mul_of_pos_right _ (by omega)
          omega
        have e5 := (Nat.le_log2 (Nat.mul_ne_zero (by omega) (by omega))).2 e4
        omega
    have hsm : s' < 2000 := by omega
    have : IntKind.i64.wrap (s' : Int) = (s' : Int) := IntWalk.i64_in _ (by omega)
    rw [this]
    omega
/-- The helper 'most'. -/
theorem most_any (n : Nat) (hn : n ≤ 300) (w : World) : Calls Try.prog 28 #[.int .i64 n] w fun e w' => e = .returned (.int .i64 (2 + (((n + 1) * (n + 1)).log2 : Nat))) ∧ w = w' := by
  obtain ⟨N, hN⟩ : ∃ N, N = (n + 1) * (n + 1) := ⟨_, rfl⟩
  have hNb : N ≤ 90601 := by
    rw [hN]
    exact Nat.le_trans (Nat.mul_le_mul (show n + 1 ≤ 301 by omega) (show n + 1 ≤ 301 by omega)) (by omega)
  have hN1 : 1 ≤ N := by rw [hN]; exact Nat.mul_pos (by omega) (by omega)
  have hmul : ((n : Int) + 1) * ((n : Int) + 1) = (N : Int) := by rw [hN]; simp
  rw [← hN]
  have hl17 : N.log2 ≤ 17 := by
    have : N.log2 < 17 := (Nat.log2_lt (by omega)).2 (by omega)
    omega
  have hw0 : IntKind.i64.wrap ((n : Int) + 1) = (n : Int) + 1 := IntWalk.i64_in _ (by omega)
  have hw1 : IntKind.i64.wrap (((n : Int) + 1) * ((n : Int) + 1)) = (N : Int) := by rw [hmul]; exact IntWalk.i64_in _ (by omega)
  clear hmul hN
  go_enter Try.func28, Try.ntmps28
  go_wp2_with fail
  go_loopg [3, 4] N (fun gk k m wr => ∃ (a x : Nat), gk = x ∧ 1 ≤ x ∧ x ≤ N ∧ k = .int .i64 ((2 + a : Nat) : Int) ∧ m = .int .i64 x ∧ a + x.log2 = N.log2 ∧ w = wr)
  case atStart => exact ⟨0, N, rfl, hN1, Nat.le_refl _, rfl, rfl, by omega, rfl⟩
  case round =>
    obtain ⟨a, x, hgx, hx1, hx2, rfl, rfl, ha, rfl⟩ := hrel
    have hgx := hgx.symm
    subst hgx
    by_cases hlt : 1 < x
    · have hx3 : (1 : Int) < (x : Int) := by omega
      have hl : x.log2 = (x / 2).log2 + 1 := by
        rw [Nat.log2_def x, if_pos (by omega)]
      have hw2 : IntKind.i64.wrap (((2 + a : Nat) : Int) + 1) = ((2 + a : Nat) : Int) + 1 := IntWalk.i64_in _ (by omega)
      have hq : Int.tdiv (x : Int) 2 = ((x / 2 : Nat) : Int) := by rw [Int.tdiv_eq_ediv_of_nonneg (by omega)]; simp
      have hw3 : IntKind.i64.wrap (Int.tdiv (x : Int) 2) = ((x / 2 : Nat) : Int) := by rw [hq]; exact IntWalk.i64_in _ (by omega)
      go_wp2_with fail
      go_roundg (x / 2)
      case rel => exact ⟨a + 1, x / 2, rfl, by omega, by omega, by go_num, by simp, by omega, rfl⟩
      case measure => omega
    · obtain rfl : x = 1 := by omega
      have ha0 : a = N.log2 := by
        have h1 : Nat.log2 1 = 0 := by rw [Nat.log2_def]; rfl
        omega
      subst ha0
      go_wp2_with fail
      go_ret
      exact ⟨by simp, rfl⟩
end Go.Proofs.Ytlhobbfncjjeaaa
