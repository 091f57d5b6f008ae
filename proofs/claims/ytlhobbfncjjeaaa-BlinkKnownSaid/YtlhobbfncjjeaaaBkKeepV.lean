/- What BlinkKeeps says of a content: what was put last is found, going on tells all; no program in sight. Next with a visit that counts: the contracts of BlinkKeeps' visit function, of a counted Next, of the helper 'most'. -/
import Derived.Test.YtlhobbfncjjeaaaBkPairs
import Derived.Test.YtlhobbfncjjeaaaBkReadL
import Derived.Laws.Cover1
import Derived.Test.YtlhobbfncjjeaaaBkRead
namespace Go.Proofs.Ytlhobbfncjjeaaa
theorem bl_slt : ∀ a b : List UInt8, Op.bytesLess a b = decide (Lib.compareBytes a b < 0)
  | [], [] => rfl
  | [], _ :: _ => rfl
  | _ :: _, [] => rfl
  | a :: x, b :: y => by
    unfold Op.bytesLess Lib.compareBytes
    by_cases h1 : a < b
    · simp [h1]
    · by_cases h2 : b < a
      · have : a ≠ b := fun e => UInt8.lt_irrefl a (by rw [← e] at h2; exact h2)
        simp [h1, h2, this]
      · have : a = b := UInt8.le_antisymm (UInt8.not_lt.1 h2) (UInt8.not_lt.1 h1)
        subst this
        simp [h1, bl_slt x y]
/-- Go's '<' on texts. -/
theorem less_slt (a b : Str) : Op.bytesLess a.toList b.toList = slt a b := by
  rw [ByteArray.toList_eq, ByteArray.toList_eq, bl_slt]
  rfl
theorem leq_sle (a b : Str) : (Op.bytesLess a.toList b.toList || a.toList == b.toList) = sle a b := by
  rw [less_slt]
  unfold sle
  cases h1 : slt a b
  · cases h2 : slt b a
    · have := slt_eq h1 h2
      subst this
      simp
    · have : (a.toList == b.toList) = false := by
        rw [beq_eq_false_iff_ne]
        intro e
        rw [ByteArray.toList_eq, ByteArray.toList_eq] at e
        have e2 : a = b := str_ext e
        rw [e2, slt_irrefl] at h2
        cases h2
      simp [this]
  · rw [slt_asymm h1]
    rfl
theorem find_filter {α : Type} {p q : α → Bool} : ∀ {l : List α}, (∀ x, x ∈ l → p x = true → q x = true) → (l.filter q).find? p = l.find? p
  | [], _ => rfl
  | x :: l, h => by
    have ih := find_filter (p := p) (q := q) (l := l) (fun y hy => h y (by simp [hy]))
    rw [List.filter_cons]
    cases hq : q x
    · have : p x = false := by
        cases hp : p x
        · rfl
        · rw [h x (by simp) hp] at hq; cases hq
      simp [this, ih]
    · simp only [if_true]
      rw [List.find?_cons, List.find?_cons, ih]
theorem cget_cput {C : Cont} {k v key : Str} : cget (cput C k v) key = if k = key then some v else cget C key := by
  unfold cget cput
  by_cases h : k = key
  · subst h
    rw [if_pos rfl, List.find?_append, find_none (fun p hp => by
      have := (List.mem_filter.1 hp).2
      simp [slt_ne this])]
    simp
  · rw [if_neg h, List.find?_append, List.find?_cons, decide_eq_false h]
    cases h1 : slt key k
    · have h2 : slt k key = true := by
        cases h2 : slt k key
        · exact absurd (slt_eq h2 h1) h
        · rfl
      rw [find_none (l := C.filter fun p => slt p.1 k) (fun p hp => by
        have := (List.mem_filter.1 hp).2
        have : p.1 ≠ key := fun e => by rw [e, h1] at this; cases this
        simp [this])]
      rw [find_filter (fun p _ hp => by
        simp only [decide_eq_true_eq] at hp
        rw [hp]; exact h2)]
      rfl
    · rw [find_filter (p := fun p : Str × Str => decide (p.1 = key)) (q := fun p : Str × Str => slt p.1 k) (fun p _ hp => by
        simp only [decide_eq_true_eq] at hp
        rw [hp]; exact h1)]
      rw [find_none (l := C.filter fun p => slt k p.1) (fun p hp => by
        have := (List.mem_filter.1 hp).2
        have : p.1 ≠ key := fun e => by rw [e, slt_asymm h1] at this; cases this
        simp [this])]
      cases List.find? (fun p => decide (p.1 = key)) C <;> rfl
theorem cget_cdel {C : Cont} {k key : Str} : cget (cdel C k) key = if k = key then none else cget C key := by
  unfold cget cdel
  by_cases h : k = key
  · subst h
    rw [if_pos rfl, find_none (fun p hp => by
      have := (List.mem_filter.1 hp).2
      simpa using this)]
    rfl
  · rw [if_neg h, find_filter (fun p _ hp => by
      simp only [decide_eq_true_eq] at hp
      rw [hp]
      simp [Ne.symm h])]
/-- A Put or a Delete of a key. -/
def hits (key : Str) (x : A10) : Bool := decide (x.2.1 = key) && (decide (0 ≤ x.1) && decide (x.1 ≤ 1))
/-- The last one of them, or else i. -/
def lastAt (L : List A10) (key : Str) (i : Nat) : Nat → Nat
  | 0 => i
  | k + 1 => if (L[k]?.map (hits key)).getD false then k else lastAt L key i k
theorem stepC_get {C : Cont} {x : A10} {key : Str} : cget (stepC C x) key = if hits key x then (if x.1 = 0 then some x.2.2.1 else none) else cget C key := by
  unfold stepC hits
  by_cases h0 : x.1 = 0
  · rw [if_pos h0, cget_cput]
    by_cases hk : x.2.1 = key
    · simp [hk, h0]
    · simp [hk]
  · rw [if_neg h0]
    by_cases h1 : x.1 = 1
    · rw [if_pos h1, cget_cdel]
      by_cases hk : x.2.1 = key
      · simp [hk, h1]
      · simp [hk]
    · rw [if_neg h1]
      have : (decide (0 ≤ x.1) && decide (x.1 ≤ 1)) = false := by
        by_cases h2 : 0 ≤ x.1
        · have : ¬ x.1 ≤ 1 := by omega
          simp [this]
        · simp [h2]
      simp [this]
theorem lastAt_lt {L : List A10} {key : Str} {i n : Nat} (hi : i < n) : ∀ m, m ≤ n → lastAt L key i m < n
  | 0, _ => hi
  | m + 1, h => by
    unfold lastAt
    split
    · omega
    · exact lastAt_lt hi m (by omega)
/-- What was put last, and not deleted since, is there. -/
theorem last_is {L : List A10} {key : Str} {i : Nat} {x : A10} (hx : L[i]? = some x) (hk : x.2.1 = key) : ∀ m, m ≤ L.length →
    (∃ y, L[lastAt L key i m]? = some y ∧ hits key y = true ∧ lastAt L key i m < m ∧ cget (doneC (L.take m)) key = if y.1 = 0 then some y.2.2.1 else none) ∨ (lastAt L key i m = i ∧ (∀ k y, k < m → L[k]? = some y → hits key y = false) ∧ cget (doneC (L.take m)) key = none)
  | 0, _ => .inr ⟨rfl, fun k y hk => by omega, by simp [doneC, cget]⟩
  | m + 1, h => by
    have hm : L[m]? = some L[m] := List.getElem?_eq_getElem (by omega)
    obtain ⟨z, hz⟩ : ∃ z, L[m]? = some z := ⟨_, hm⟩
    rw [take_next hz, doneC_snoc, stepC_get]
    unfold lastAt
    rw [hz]
    simp only [Option.map_some, Option.getD_some]
    by_cases hh : hits key z = true
    rotate_left
    · have hh : hits key z = false := by simpa using hh
      simp only [hh, Bool.false_eq_true, if_false]
      rcases last_is hx hk m (by omega) with ⟨y, h1, h2, h3, h4⟩ | ⟨h1, h2, h3⟩
      · exact .inl ⟨y, h1, h2, by omega, h4⟩
      · refine .inr ⟨h1, fun k y hk hy => ?_, h3⟩
        by_cases e : k = m
        · subst e
          rw [hz] at hy
          injection hy with hy
          rw [← hy]; exact hh
        · exact h2 k y (by omega) hy
    · simp only [hh, if_true]
      exact .inl ⟨z, hz, hh, by omega, rfl⟩
/-- What the law asks at act i. -/
theorem last_law {L : List A10} {i : Nat} {x y : A10} (hx : L[i]? = some x) (hy : L[lastAt L x.2.1 i L.length]? = some y) :
    (cget (doneC L) x.2.1).isSome = decide (y.1 = 0) ∧ (y.1 = 0 → (cget (doneC L) x.2.1).getD s0 = y.2.2.1) := by
  have hi := (List.getElem?_eq_some_iff.1 hx).1
  have hL : L.take L.length = L := List.take_length
  rcases last_is hx rfl L.length (Nat.le_refl _) with ⟨z, h1, h2, h3, h4⟩ | ⟨h1, h2, h3⟩
  · rw [h1] at hy
    injection hy with hy
    subst hy
    rw [hL] at h4
    rw [h4]
    by_cases h0 : z.1 = 0
    · simp [h0]
    · simp [h0]
  · rw [hL] at h3
    rw [h1, hx] at hy
    injection hy with hy
    subst hy
    have h4 := h2 i x hi hx
    have h5 : ¬ x.1 = 0 := by
      intro h0
      unfold hits at h4
      simp [h0] at h4
    rw [h3]
    simp [h5]
/-- Going on from key to key. -/
theorem csort_lt {C : Cont} (hC : CSort C) {i j : Nat} {p q : Str × Str} (hij : i < j) (hp : C[i]? = some p) (hq : C[j]? = some q) : slt p.1 q.1 = true := by
  obtain ⟨h1, rfl⟩ := List.getElem?_eq_some_iff.1 hp
  obtain ⟨h2, rfl⟩ := List.getElem?_eq_some_iff.1 hq
  exact (List.pairwise_iff_getElem.1 hC) i j h1 h2 hij
theorem cnext_at : ∀ {C : Cont} {k : Str} {after : Bool} {n : Nat}, (∀ i p, i < n → C[i]? = some p → abv k after p.1 = false) → (∀ p, C[n]? = some p → abv k after p.1 = true) → cnext C k after = C[n]?
  | [], k, after, n, _, _ => by simp [cnext]
  | p :: C, k, after, 0, _, h => by
    have := h p rfl
    unfold cnext
    rw [List.find?_cons, show (if after = true then slt k p.1 else sle k p.1) = true from this]
    rfl
  | p :: C, k, after, n + 1, h, h' => by
    have h0 := h 0 p (by omega) rfl
    unfold cnext
    rw [List.find?_cons, show (if after = true then slt k p.1 else sle k p.1) = false from h0]
    exact cnext_at (C := C) (n := n) (fun i q hi hq => h (i + 1) q (by omega) (by simpa using hq)) (fun q hq => h' q (by simpa using hq))
theorem cnext_first (C : Cont) : cnext C s0 false = C[0]? := cnext_at (fun i p hi => by omega) (fun p _ => sle_s0 p.1)
theorem cnext_next {C : Cont} (hC : CSort C) {n : Nat} {p : Str × Str} (hp : C[n]? = some p) : cnext C p.1 true = C[n + 1]? := by
  refine cnext_at (fun i q hi hq => ?_) (fun q hq => ?_)
  · unfold abv
    simp only [if_true]
    by_cases e : i = n
    · subst e
      rw [hp] at hq
      injection hq with hq
      rw [← hq, slt_irrefl]
    · exact slt_asymm (csort_lt hC (by omega) hq hp)
  · exact csort_lt hC (by omega) hp hq
theorem cget_at {C : Cont} (hC : CSort C) {n : Nat} {p : Str × Str} (hp : C[n]? = some p) : cget C p.1 = some p.2 := by
  unfold cget
  have : C.find? (fun q => decide (q.1 = p.1)) = some p := by
    obtain ⟨h1, h2⟩ := List.getElem?_eq_some_iff.1 hp
    refine List.find?_eq_some_iff_append.2 ⟨by simp, C.take n, C.drop (n + 1), by rw [← h2]; simp, fun q hq => ?_⟩
    obtain ⟨i, hi⟩ := List.mem_iff_getElem?.1 hq
    have hin : i < n := by
      have := (List.getElem?_eq_some_iff.1 hi).1
      simp only [List.length_take] at this
      omega
    rw [List.getElem?_take, if_pos hin] at hi
    simp [slt_ne (csort_lt hC hin hi hp)]
  rw [this]
  rfl
theorem doneC_len : ∀ {L : List A10}, (∀ L', CSort (doneC L')) → (doneC L).length ≤ L.length := by
  intro L h
  have : ∀ n, n ≤ L.length → (doneC (L.take n)).length ≤ n := by
    intro n
    induction n with
    | zero => intro _; simp [doneC]
    | succ n ih =>
      intro hn
      have hx : L[n]? = some L[n] := List.getElem?_eq_getElem (by omega)
      rw [take_next hx, doneC_snoc]
      have h1 := ih (by omega)
      have h2 := h (L.take n)
      unfold stepC
      split
      · rw [cput_len h2]; split <;> omega
      · split
        · have := (cdel_len h2 L[n].2.1).1
          rw [this]; split <;> omega
        · omega
  have h2 := this L.length (Nat.le_refl _)
  rw [List.take_length] at h2
  exact h2
end Go.Proofs.Ytlhobbfncjjeaaa
namespace Go.Proofs.Ytlhobbfncjjeaaa
open Go.RowKit
def cntVis (Ls : List Lev) : Vis Nat := ⟨fun _ => Ls, fun _ => [content Ls], fun s => s, fun _ => 0, fun s s' => s' = s + 1⟩
theorem cntVis_ok (Ls : List Lev) : VisOK (cntVis Ls) where
  evo := fun _ _ _ => Evo.refl _
  ms := fun _ _ _ => ⟨fun _ h => h, by simp [cntVis]⟩
  work := fun _ _ _ => ⟨Nat.le_refl _, fun _ => rfl⟩
  cnt := fun _ _ h => h
theorem cntVis_static (Ls : List Lev) : Static (cntVis Ls) := fun _ _ _ => rfl
def CntI (w0 : World) (ρ : Nat → Nat) (P : Nat × Nat × Nat) (gens : List Int) (free : List Bool) (D : List ArD) (rt i t : Nat) (d : ArD) (Ls : List Lev) (r : Hd) (size b s : Nat) (W : World) (ρ' : Nat → Nat) : Prop :=
  ρ' = ρ ∧ BW w0 W ρ P gens free D ∧ Tr W ρ P D rt i t d Ls r size ∧ ρ b = 7 ∧ W.heap[b]? = some (.cells #[.int .i64 (IntKind.i64.wrap (s : Int))] 3)
theorem keeps1_any {W : World} {b : Nat} {x : Int} (h : W.heap[b]? = some (.cells #[.int .i64 x] 3)) : Calls Try.prog 27 #[.pointer (some ⟨b, 0, none⟩)] W fun e W' => e = .returned (.tuple #[]) ∧ W' = W.setCell ⟨b, 0, none⟩ (.int .i64 (IntKind.i64.wrap (x + 1))) := by
  have k0 : W.cell? ⟨b, 0, none⟩ = some (.int .i64 x) := by rw [cell_of_heap h]; rfl
  have f0 : W.frozen? ⟨b, 0, none⟩ = false := frozen_of_heap h _
  have hq := heap_lt h
  clear h
  obtain ⟨y, hy⟩ : ∃ y, IntKind.i64.wrap (x + 1) = y := ⟨_, rfl⟩
  rw [hy]
  go_enter Try.func27, Try.ntmps27
  go_wp2_with fail
  go_end0
  exact ⟨rfl, rfl⟩
section
variable {w0 w : World} {ρ : Nat → Nat} {P : Nat × Nat × Nat} {gens : List Int} {free : List Bool} {D : List ArD} {rt i t b : Nat} {d : ArD} {Ls : List Lev} {r : Hd} {size : Nat}
theorem cnt_visits (hs : Sane Ls) : VisW (cntVis Ls) w0 t 27 #[] #[.pointer (some ⟨b, 0, none⟩)] [7] 50000000 (CntI w0 ρ P gens free D rt i t d Ls r size b) where
  r0 := by simp
  tree := by
    rintro s W ρ' ⟨rfl, h1, h2, h3, h4⟩
    exact ⟨hs, by simp [cntVis], P, gens, free, D, rt, i, d, r, size, h1, h2⟩
  own := by
    rintro s W W' ρ' S ⟨rfl, h1, h2, h3, h4⟩ hu hS
    have hr : RU [0] W W' ρ' ρ' := RU.upd h1.ro hu (fun k hk hl => by simp [(hS k hk hl).2])
    refine ⟨rfl, h1.turn0 hr (own_below h1.ro.bel hu fun k hk hl => (hS k hk hl).1) (by simp), h2.ru hr (by simp) ?_, h3, hr.heap h4 (by rw [h3]; simp)⟩
    have := h2.rt4
    simp
    omega
  enter := enters_of Try.func27 (by kernel_rfl) rfl
  call := by
    rintro s W ρ' ⟨rfl, h1, h2, h3, h4⟩ _
    refine (keeps1_any h4).mono ?_
    rintro e W' ⟨rfl, rfl⟩
    have hu : Upd [b] W (W.setCell ⟨b, 0, none⟩ (.int .i64 (IntKind.i64.wrap (IntKind.i64.wrap (s : Int) + 1)))) := (Upd.refl _ _).setCell (by simp) _
    have hr : RU [7] W (W.setCell ⟨b, 0, none⟩ (.int .i64 (IntKind.i64.wrap (IntKind.i64.wrap (s : Int) + 1)))) ρ' ρ' := RU.upd h1.ro hu (fun k hk hl => by simp at hk; subst hk; simp [h3])
    refine ⟨rfl, s + 1, ρ', rfl, ⟨rfl, h1.turn0 hr (own_below h1.ro.bel hu fun k hk hl => ?_) (by simp), h2.ru hr (by simp) ?_, h3, ?_⟩, hr⟩
    · simp at hk
      subst hk
      exact h1.ro.ge (by rw [h3]; simp)
    · have := h2.rt4
      simp
      omega
    · rw [heap_self, h4]
      have : IntKind.i64.wrap (IntKind.i64.wrap (s : Int) + 1) = IntKind.i64.wrap ((s + 1 : Nat) : Int) := by
        rw [IntKind.wrap_i64, IntKind.wrap_i64, IntKind.wrap_i64]
        omega
      rw [this]
      rfl
end
/-- A counted Next leaves the tree, and how many visits there were. -/
def CountEnd (w : World) (b : Nat) (C : Cont) (fat : Bool) (key : Str) (after : Bool) (e : Ending) (w' : World) : Prop :=
  ∃ n : Int, e = .returned (nextV (cnext C key after)) ∧ Below w.heap.size w w' ∧ w'.heap[b]? = some (.cells #[.int .i64 n] 3) ∧ (fat = true → n ≤ 2 + (((C.length + 1) * (C.length + 1)).log2 : Nat))
theorem TreeIs.count {w0 w W : World} {p t c0 lv b : Nat} {C : Cont} {fat : Bool} (h : TreeIs w0 w p t C c0 lv fat) (hlv : lv ≤ 10000) (hb : Below w.heap.size w W) (hbb : w.heap.size ≤ b) (hbox : W.heap[b]? = some (.cells #[.int .i64 0] 3)) (key : Str) (after : Bool) :
    Calls Try.prog 17 #[.pointer (some ⟨t, 0, none⟩), .string key, .bool after, .func (.func 27) #[] #[.pointer (some ⟨b, 0, none⟩)]] W (CountEnd w b C fat key after) := by
  have hsrt := h.sorted
  obtain ⟨ρ, P, gens, free, D, rt, i, d, Ls, r, h1, h2, h3, h4, h5, h6, h7, h8⟩ := h
  obtain ⟨g1, g2⟩ := TreeIs.hll h3.tow h3.thk h7 hlv
  have hsn : Sane Ls := ⟨h3.tow, h4, g1, g2⟩
  have hsz := h3.tow.size h3.thk
  have hge := fun hf h2l => h3.tow.ge2 (h8 hf) h2l
  rw [h5] at hge
  replace h2 := (h2.reC (c := 7) (.inl rfl))
  replace h3 := (h3.reC (c := 7) (.inl rfl))
  have hbl := heap_lt hbox
  have hru : RU [] w W (reC 7 ρ) (mark (reC 7 ρ) b 7) := (RU.below h2.ro hb).mark hbb hbl
  have h2' : BW w0 W (mark (reC 7 ρ) b 7) P gens free D := h2.turn0 hru (h2.ro.bel.trans (hb.mono h2.ro.bel.size)) (by simp)
  have hI : CntI w0 (mark (reC 7 ρ) b 7) P gens free D rt i t d Ls r C.length b 0 W (mark (reC 7 ρ) b 7) := ⟨rfl, h2', h3.ru hru (by simp) (by simp), mark_self, hbox⟩
  refine (vis_next (cntVis_ok Ls) (cnt_visits hsn) hI (by simp [cntVis]) key after).mono ?_
  rintro e w' ⟨s', ρ', o, rfl, hN, ⟨rfl, h2'', h3'', h7', hbox'⟩, hR⟩
  refine ⟨_, by rw [hN.eq hsrt h5 (fun c hc => by simpa [cntVis, h5] using hc)], ⟨hR.os.trans hb.os, hR.tape.trans hb.tape, hR.output.trans hb.output, Nat.le_trans hb.size hR.size, fun k hk => (hR.block k (Nat.lt_of_lt_of_le hk hb.size) ?_).trans (hb.block k hk)⟩, hbox', fun hf => ?_⟩
  · rw [mark_other (by omega)]
    simp [reC_ne]
  · have hst := hN.sta (cntVis_static Ls) (h8 hf)
    simp only [cntVis] at hst
    obtain ⟨s1, s2, s3⟩ := hsz
    have hH : s' ≤ 2 + ((C.length + 1) * (C.length + 1)).log2 := by
      by_cases h1' : Ls.length = 1
      · omega
      · have e1 : 2 ≤ 2 ^ (Ls.length - 1) := by
          have : 2 ^ 1 ≤ 2 ^ (Ls.length - 1) := Nat.pow_le_pow_right (by omega) (by omega)
          omega
        have e2 := hge hf (by omega)
        have e3 : 2 ^ Ls.length ≤ C.length := by
          have : 2 ^ Ls.length = 2 ^ (Ls.length - 1) * 2 := by rw [← Nat.pow_succ]; congr 1; omega
          omega
        have e4 : 2 ^ Ls.length ≤ (C.length + 1) * (C.length + 1) := by
          have : C.length + 1 ≤ (C.length + 1) * (C.length + 1) := Nat.le_mul_of_pos_right _ (by omega)
          omega
        have e5 := (Nat.le_log2 (Nat.mul_ne_zero (by omega) (by omega))).2 e4
        omega
    have hsm : s' < 2000 := by omega
    have : IntKind.i64.wrap (s' : Int) = (s' : Int) := IntWalk.i64_in _ (by omega)
    rw [this]
    omega
/-- The helper 'most'. -/
theorem most_any (n : Nat) (hn : n ≤ 300) (w : World) : Calls Try.prog 28 #[.int .i64 n] w fun e w' => e = .returned (.int .i64 (2 + (((n + 1) * (n + 1)).log2 : Nat))) ∧ w = w' := by
  obtain ⟨N, hN⟩ : ∃ N, N = (n + 1) * (n + 1) := ⟨_, rfl⟩
  have hNb : N ≤ 90601 := by
    rw [hN]
    exact Nat.le_trans (Nat.mul_le_mul (show n + 1 ≤ 301 by omega) (show n + 1 ≤ 301 by omega)) (by omega)
  have hN1 : 1 ≤ N := by rw [hN]; exact Nat.mul_pos (by omega) (by omega)
  have hmul : ((n : Int) + 1) * ((n : Int) + 1) = (N : Int) := by rw [hN]; simp
  rw [← hN]
  have hl17 : N.log2 ≤ 17 := by
    have : N.log2 < 17 := (Nat.log2_lt (by omega)).2 (by omega)
    omega
  have hw0 : IntKind.i64.wrap ((n : Int) + 1) = (n : Int) + 1 := IntWalk.i64_in _ (by omega)
  have hw1 : IntKind.i64.wrap (((n : Int) + 1) * ((n : Int) + 1)) = (N : Int) := by rw [hmul]; exact IntWalk.i64_in _ (by omega)
  clear hmul hN
  go_enter Try.func28, Try.ntmps28
  go_wp2_with fail
  go_loopg [3, 4] N (fun gk k m wr => ∃ (a x : Nat), gk = x ∧ 1 ≤ x ∧ x ≤ N ∧ k = .int .i64 ((2 + a : Nat) : Int) ∧ m = .int .i64 x ∧ a + x.log2 = N.log2 ∧ w = wr)
  case atStart => exact ⟨0, N, rfl, hN1, Nat.le_refl _, rfl, rfl, by omega, rfl⟩
  case round =>
    obtain ⟨a, x, hgx, hx1, hx2, rfl, rfl, ha, rfl⟩ := hrel
    have hgx := hgx.symm
    subst hgx
    by_cases hlt : 1 < x
    · have hx3 : (1 : Int) < (x : Int) := by omega
      have hl : x.log2 = (x / 2).log2 + 1 := by
        rw [Nat.log2_def x, if_pos (by omega)]
      have hw2 : IntKind.i64.wrap (((2 + a : Nat) : Int) + 1) = ((2 + a : Nat) : Int) + 1 := IntWalk.i64_in _ (by omega)
      have hq : Int.tdiv (x : Int) 2 = ((x / 2 : Nat) : Int) := by rw [Int.tdiv_eq_ediv_of_nonneg (by omega)]; simp
      have hw3 : IntKind.i64.wrap (Int.tdiv (x : Int) 2) = ((x / 2 : Nat) : Int) := by rw [hq]; exact IntWalk.i64_in _ (by omega)
      go_wp2_with fail
      go_roundg (x / 2)
      case rel => exact ⟨a + 1, x / 2, rfl, by omega, by omega, by go_num, by simp, by omega, rfl⟩
      case measure => omega
    · obtain rfl : x = 1 := by omega
      have ha0 : a = N.log2 := by
        have h1 : Nat.log2 1 = 0 := by rw [Nat.log2_def]; rfl
        omega
      subst ha0
      go_wp2_with fail
      go_ret
      exact ⟨by simp, rfl⟩
end Go.Proofs.Ytlhobbfncjjeaaa
