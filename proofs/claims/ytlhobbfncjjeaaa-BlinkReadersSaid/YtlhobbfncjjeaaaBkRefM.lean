/- The contracts of the document's functions of writes: Done, Moments, Found, Least. -/
import Derived.Test.YtlhobbfncjjeaaaBkRef
namespace Go.Proofs.Ytlhobbfncjjeaaa
open Go.RowKit
/-- A write: Key, Value, Gone. -/
abbrev W10 := Str × Str × Bool
def doneW (C : Cont) (x : W10) : Cont := if x.2.2 then cdel C x.1 else cput C x.1 x.2.1
/-- What there is behind j writes. -/
def mom (C : Cont) (wl : List W10) (j : Nat) : Cont := (wl.take j).foldl doneW C
theorem mom_zero (C : Cont) (wl : List W10) : mom C wl 0 = C := rfl
theorem mom_succ {C : Cont} {wl : List W10} {j : Nat} {x : W10} (h : wl[j]? = some x) : mom C wl (j + 1) = doneW (mom C wl j) x := by
  unfold mom
  rw [take_next h]
  simp
theorem csort_cput {C : Cont} (h : CSort C) (k v : Str) : CSort (cput C k v) := by
  unfold cput CSort
  refine List.pairwise_append.2 ⟨List.Pairwise.sublist List.filter_sublist h, List.pairwise_cons.2 ⟨fun p hp => (List.mem_filter.1 hp).2, List.Pairwise.sublist List.filter_sublist h⟩, fun p hp q hq => ?_⟩
  have h1 := (List.mem_filter.1 hp).2
  rcases List.mem_cons.1 hq with rfl | hq
  · exact h1
  · exact slt_trans h1 (List.mem_filter.1 hq).2
theorem csort_cdel {C : Cont} (h : CSort C) (k : Str) : CSort (cdel C k) := List.Pairwise.sublist List.filter_sublist h
theorem mom_sort {C : Cont} {wl : List W10} (h : CSort C) : ∀ j, CSort (mom C wl j) := by
  intro j
  induction j with
  | zero => exact h
  | succ j ih =>
    rcases Nat.lt_or_ge j wl.length with h1 | h1
    · rw [mom_succ (List.getElem?_eq_getElem h1)]
      unfold doneW
      split
      · exact csort_cdel ih _
      · exact csort_cput ih _ _
    · have : mom C wl (j + 1) = mom C wl j := by unfold mom; rw [List.take_of_length_le (by omega), List.take_of_length_le h1]
      rw [this]; exact ih
theorem mom_len {C : Cont} {wl : List W10} (h : CSort C) : ∀ j, (mom C wl j).length ≤ C.length + j := by
  intro j
  induction j with
  | zero => exact Nat.le_refl _
  | succ j ih =>
    rcases Nat.lt_or_ge j wl.length with h1 | h1
    · rw [mom_succ (List.getElem?_eq_getElem h1)]
      have hs := mom_sort (wl := wl) h j
      unfold doneW
      split
      · rw [(cdel_len hs _).1]; split <;> omega
      · rw [cput_len hs]; split <;> omega
    · have : mom C wl (j + 1) = mom C wl j := by unfold mom; rw [List.take_of_length_le (by omega), List.take_of_length_le h1]
      rw [this]; omega
theorem mom_len2 {C : Cont} {wl : List W10} (h : CSort C) (j : Nat) : (mom C wl j).length ≤ C.length + wl.length := by
  rcases Nat.le_total j wl.length with h1 | h1
  · have := mom_len (wl := wl) h j
    omega
  · have e : mom C wl j = mom C wl wl.length := by unfold mom; rw [List.take_of_length_le h1, List.take_of_length_le (Nat.le_refl _)]
    rw [e]
    exact mom_len h _
/-- Keys that are texts. -/
def KSz (C : Cont) : Prop := ∀ p, p ∈ C → p.1.size ≤ maxLen
def WSz (wl : List W10) : Prop := ∀ x, x ∈ wl → x.1.size ≤ maxLen
theorem mom_ksz {C : Cont} {wl : List W10} (h : KSz C) (hw : WSz wl) : ∀ j, KSz (mom C wl j) := by
  intro j
  induction j with
  | zero => exact h
  | succ j ih =>
    rcases Nat.lt_or_ge j wl.length with h1 | h1
    · rw [mom_succ (List.getElem?_eq_getElem h1)]
      have hx := hw _ (List.getElem_mem h1)
      unfold doneW
      split
      · exact fun p hp => ih p (List.mem_filter.1 hp).1
      · intro p hp
        unfold cput at hp
        rcases List.mem_append.1 hp with hp | hp
        · exact ih p (List.mem_filter.1 hp).1
        · rcases List.mem_cons.1 hp with rfl | hp
          · exact hx
          · exact ih p (List.mem_filter.1 hp).1
    · have : mom C wl (j + 1) = mom C wl j := by unfold mom; rw [List.take_of_length_le (by omega), List.take_of_length_le h1]
      rw [this]; exact ih
def WCell (w : World) (b o : Nat) (x : W10) : Prop := w.cell? ⟨b, o, none⟩ = some (.string x.1) ∧ w.cell? ⟨b, o + 1, none⟩ = some (.string x.2.1) ∧ w.cell? ⟨b, o + 2, none⟩ = some (.bool x.2.2)
/-- A slice has these writes. -/
def WActs (w : World) (s : Option Addr) (L : List W10) : Prop := ∀ k x, L[k]? = some x → ∃ b off, s = some ⟨b, off, none⟩ ∧ b < w.heap.size ∧ WCell w b (off + k * 3) x
theorem WCell.below {w w' : World} {b o : Nat} {x : W10} (h : WCell w b o x) (hb : Below w.heap.size w w') : WCell w' b o x := ⟨keep hb h.1, keep hb h.2.1, keep hb h.2.2⟩
theorem WActs.below {w w' : World} {s : Option Addr} {L : List W10} (h : WActs w s L) (hb : Below w.heap.size w w') : WActs w' s L := fun k x hx => by
  obtain ⟨b, off, h1, h2, h3⟩ := h k x hx
  exact ⟨b, off, h1, Nat.lt_of_lt_of_le h2 hb.size, h3.below hb⟩
theorem PairsEnd.up {w w1 w' : World} {C : Cont} {e : Ending} (hb : Below w.heap.size w w1) (h : PairsEnd w1 C e w') : PairsEnd w C e w' := by
  obtain ⟨a, c, h1, h2, h3⟩ := h
  exact ⟨a, c, h1, h2.rebase (fun b hb2 => Nat.le_trans hb.size (h2.lt b hb2).1), hb.trans (h3.mono hb.size)⟩
set_option maxHeartbeats 1000000 in
theorem done10_any (a : Option Addr) (c : Nat) (C : Cont) (x : W10) (w : World) (h : At w 2 pcel a c C) (hs : CSort C) (hC : C.length ≤ 100000) (hkm : x.1.size ≤ maxLen) :
    Calls Try.prog 13 #[.slice a C.length c, .agg #[.string x.1, .string x.2.1, .bool x.2.2]] w (PairsEnd w (doneW C x)) := by
  obtain ⟨k, v, g⟩ := x
  simp only at hkm
  have hA : Below w.heap.size w (w.alloc (.cells #[.string k, .string v, .bool g] 26)) := (Below.refl _ _).alloc (Nat.le_refl _) _
  have hPu := Lib.hid (r9put_any a c C k v (w.alloc (.cells #[.string k, .string v, .bool g] 26)) (h.below hA) hs hC hkm)
  have hDe := Lib.hid (r9del_any a c C k (w.alloc (.cells #[.string k, .string v, .bool g] 26)) (h.below hA) hC)
  have hE : Hid (∀ e w', (g = false → PairsEnd (w.alloc (.cells #[.string k, .string v, .bool g] 26)) (cput C k v) e w') → (g = true → PairsEnd (w.alloc (.cells #[.string k, .string v, .bool g] 26)) (cdel C k) e w') → PairsEnd w (doneW C (k, v, g)) e w') := Lib.hid (by
    intro e w' h1 h2
    unfold doneW
    cases g
    · exact (h1 rfl).up hA
    · exact (h2 rfl).up hA)
  clear h hs
  replace hA := Lib.hid hA
  cases g with
  | true =>
    go_enter Try.func13, Try.ntmps13
    go_wp2_with fail
    refine hDe.out.mono ?_
    rintro e w3 h3
    obtain ⟨a3, c3, he, h4, h5⟩ := h3
    subst he
    have hfin := Lib.hid (hE.out (.returned (.slice a3 (cdel C k).length c3)) w3 (fun h => (by cases h)) (fun _ => ⟨a3, c3, rfl, h4, h5⟩))
    clear h4 h5 hE hPu hDe
    go_wp2_with fail
    go_ret
    exact hfin.out
  | false =>
    go_enter Try.func13, Try.ntmps13
    go_wp2_with fail
    refine hPu.out.mono ?_
    rintro e w3 h3
    obtain ⟨a3, c3, he, h4, h5⟩ := h3
    subst he
    have hfin := Lib.hid (hE.out (.returned (.slice a3 (cput C k v).length c3)) w3 (fun _ => ⟨a3, c3, rfl, h4, h5⟩) (fun h => (by cases h)))
    clear h4 h5 hE hPu hDe
    go_wp2_with fail
    go_ret
    exact hfin.out
/-! ### Moments -/
abbrev Sl := Option Addr × Nat × Nat
def slcel (x : Sl) : List Value := [.slice x.1 x.2.1 x.2.2]
theorem slcel_len (x : Sl) : (slcel x).length = 1 := rfl
theorem slcel_one (x : Sl) : ∀ y ∈ slcel x, y.oneCell' = true := by intro y hy; simp [slcel] at hy; subst hy; rfl
theorem row_lit1 (w : World) (base : Nat) (e : TypeId) (x : Sl) (hb : base ≤ w.heap.size) : Row base e 1 slcel (w.alloc (.cells #[.slice x.1 x.2.1 x.2.2] e)) (.slice (some ⟨w.heap.size, 0, none⟩) 1 1) [x] :=
  ⟨slcel_len, slcel_one, World.ownsRow_lit w #[.slice x.1 x.2.1 x.2.2] 1 hb (by unfold maxLen; omega) rfl⟩
theorem Row.ty {α : Type} {base k : Nat} {e : TypeId} {f : α → List Value} {w : World} {v : Value} {L : List α} (h : Row base e k f w v L) : ∀ b, v.ownBlock = some b → ∃ cur, w.heap[b]? = some (.cells cur e) := by
  intro b hb
  rcases h.2.2.2 with ⟨rfl, _⟩ | ⟨g, cap, cur, rfl, h3, h4, _⟩
  · cases hb
  · injection hb with hb
    subst hb
    exact ⟨cur, h4⟩
/-- Pairs in a block that no row of rows lies in. -/
def PAt (w : World) (base : Nat) (a : Option Addr) (c : Nat) (C : Cont) : Prop := At w 2 pcel a c C ∧ ∀ b, b ∈ bks a C → b < base ∨ ∃ cur, w.heap[b]? = some (.cells cur 101)
theorem At.blt {w : World} {a : Option Addr} {c : Nat} {C : Cont} (h : At w 2 pcel a c C) : ∀ b, b ∈ bks a C → b < w.heap.size := by
  intro b hb
  unfold bks at hb
  cases C with
  | nil => simp at hb
  | cons x C =>
    obtain ⟨g, o, rfl, h1, _⟩ := h.some (by simp)
    simp at hb
    subst hb
    exact h1
theorem PAt.below {w w' : World} {base : Nat} {a : Option Addr} {c : Nat} {C : Cont} (h : PAt w base a c C) (hb : Below w.heap.size w w') : PAt w' base a c C :=
  ⟨h.1.below hb, fun b hb2 => by
    rcases h.2 b hb2 with h1 | ⟨cur, h1⟩
    · exact .inl h1
    · exact .inr ⟨cur, Below.heap' hb h1⟩⟩
theorem PAt.upd {w w' : World} {base : Nat} {a : Option Addr} {c : Nat} {C : Cont} {v : Value} {L : List Sl} (h : PAt w base a c C) (hr : Row base 37 1 slcel w v L) (hu : Upd v.ownBlock.toList w w') : PAt w' base a c C := by
  have hne : ∀ b, b ∈ bks a C → b ∉ v.ownBlock.toList := by
    intro b hb hh
    have hh' := mem_own hh
    have h1 := hr.lt b hh'
    rcases h.2 b hb with h2 | ⟨cur, h2⟩
    · omega
    · obtain ⟨cur2, h3⟩ := hr.ty b hh'
      rw [h2] at h3
      injection h3 with h3
      injection h3 with _ h3
      exact absurd h3 (by decide)
  refine ⟨h.1.updB hu hne, fun b hb => ?_⟩
  rcases h.2 b hb with h2 | ⟨cur, h2⟩
  · exact .inl h2
  · exact .inr ⟨cur, hu.heap h2 (hne b hb)⟩
theorem PAt.row {w : World} {base base' : Nat} {a : Option Addr} {c : Nat} {C : Cont} (h : Row base' 101 2 pcel w (.slice a C.length c) C) : PAt w base a c C := by
  refine ⟨h.at', fun b hb => .inr ?_⟩
  unfold bks at hb
  cases C with
  | nil => simp at hb
  | cons x C =>
    rcases h.cases with ⟨_, h1⟩ | ⟨g, cap, e, _, _, h2, _⟩
    · cases h1
    · injection e with e _ _
      subst e
      simp at hb
      subst hb
      exact h.ty _ rfl
/-- Rows of what there was at each moment. -/
structure MomsAt (w : World) (base : Nat) (v : Value) (C0 : Cont) (wl : List W10) (n : Nat) (L : List Sl) : Prop where
  row : Row base 37 1 slcel w v L
  len : L.length = n + 1
  at' : ∀ j, j ≤ n → ∃ a c, L[j]? = some (a, (mom C0 wl j).length, c) ∧ PAt w base a c (mom C0 wl j)
def MomsEnd (w : World) (C0 : Cont) (wl : List W10) (n : Nat) (e : Ending) (w' : World) : Prop :=
  ∃ a c L, e = .returned (.slice a (n + 1) c) ∧ MomsAt w' w.heap.size (.slice a (n + 1) c) C0 wl n L ∧ Below w.heap.size w w'
theorem pairs9_info : ∃ i0 : TypeInfo, Try.prog.info? 37 = some i0 ∧ i0.zero = some (.slice none 0 0) ∧ i0.size = 1 ∧ i0.bytes = 24 := info_parts (show (Try.prog.info? 37).map (fun i => (i.zero, i.size, i.bytes)) = some (some (.slice none 0 0), 1, 24) by kernel_rfl)
set_option maxRecDepth 100000 in
set_option maxHeartbeats 1000000 in
theorem moments_any (a : Option Addr) (c : Nat) (C0 : Cont) (s : Option Addr) (cap n : Nat) (wl : List W10) (w : World) (h : At w 2 pcel a c C0) (hs : CSort C0) (hC : C0.length ≤ 50000) (hW : WActs w s wl) (hz : WSz wl) (hn : n ≤ wl.length) (hn2 : n ≤ 1000) :
    Calls Try.prog 16 #[.slice a C0.length c, .slice s n cap] w (MomsEnd w C0 wl n) := by
  have hro := Lib.hid hW
  have hml := Lib.hid (mom_len (wl := wl) hs)
  have hms := Lib.hid (mom_sort (wl := wl) hs)
  have hA : Below w.heap.size w (w.alloc (.cells #[.slice a C0.length c] 37)) := (Below.refl _ _).alloc (Nat.le_refl _) _
  have hM0 : Hid (MomsAt (w.alloc (.cells #[.slice a C0.length c] 37)) w.heap.size (.slice (some ⟨w.heap.size, 0, none⟩) 1 1) C0 wl 0 [(a, C0.length, c)]) := Lib.hid ⟨row_lit1 w w.heap.size 37 (a, C0.length, c) (Nat.le_refl _), rfl, fun j hj => by
    obtain rfl : j = 0 := by omega
    exact ⟨a, c, rfl, h.below hA, fun b hb => .inl (h.blt b hb)⟩⟩
  obtain ⟨i0, hi0, hzA, hzB, hzC⟩ := pairs9_info
  replace hA := Lib.hid hA
  replace hz := Lib.hid hz
  clear h hs hW
  go_enter Try.func16, Try.ntmps16
  go_wp2_with fail
  go_loopg [0, 5, 6] n (fun gk lv ov iv wr => ∃ (k : Nat) (la : Option Addr) (lc : Nat) (oa : Option Addr) (oc : Nat) (L : List Sl), gk = n - k ∧ k ≤ n ∧ iv = .int .i64 k ∧ lv = .slice la (mom C0 wl k).length lc ∧ ov = .slice oa (k + 1) oc ∧ At wr 2 pcel la lc (mom C0 wl k) ∧ MomsAt wr w.heap.size (.slice oa (k + 1) oc) C0 wl k L ∧ Below w.heap.size w wr)
  case atStart => exact ⟨0, a, c, some ⟨w.heap.size, 0, none⟩, 1, _, rfl, by omega, rfl, rfl, rfl, (by obtain ⟨a2, c2, e, h2⟩ := hM0.out.at' 0 (Nat.le_refl _); simp at e; obtain ⟨rfl, _, rfl⟩ := e; exact h2.1), hM0.out, hA.out⟩
  case round =>
    clear hM0 hA
    obtain ⟨k, la, lc, oa, oc, L, rfl, hk, rfl, rfl, rfl, hAt, hM, hB⟩ := hrel
    by_cases hlt : k < n
    · obtain ⟨x, hx⟩ : ∃ x, wl[k]? = some x := ⟨_, List.getElem?_eq_getElem (by omega)⟩
      obtain ⟨b, off, rfl, hbw, hact⟩ := hro.out k x hx
      obtain ⟨g0, g1, g2⟩ := hact.below hB
      have hsx := hz.out x (List.mem_of_getElem? hx)
      have hbw2 := block_lt_of_cell g0
      have hlen := hml.out k
      have hDo := done10_any la lc (mom C0 wl k) x wr hAt (hms.out k) (by omega) hsx
      rw [← mom_succ hx] at hDo
      replace hDo := Lib.hid hDo
      have hcn : C0.length + k + 1 ≤ 100000 := by omega
      obtain ⟨cl, hcl⟩ : ∃ cl, cl = (mom C0 wl k).length := ⟨_, rfl⟩
      rw [← hcl] at hlen hDo ⊢
      clear hcl hact hAt hx hsx hbw
      obtain ⟨x1, x2, x3⟩ := x
      simp only at g0 g1 g2 hDo
      have hA2 : (k : Int) < (n : Int) := by omega
      have hA3 : (0 : Int) ≤ (k : Int) := by omega
      have hw1 : IntKind.i64.wrap ((k : Int) + 1) = (k : Int) + 1 := IntWalk.i64_in _ (by omega)
      replace hM := Lib.hid hM
      replace hB := Lib.hid hB
      go_upto_region 5 with fail
      go_wp2_with fail
      refine hDo.out.mono ?_
      clear hDo g0 g1 g2 hbw2
      rintro e w4 ⟨a4, c4, rfl, hr4, hb4⟩
      obtain ⟨cm, hcm⟩ : ∃ cm, cm = (mom C0 wl (k + 1)).length := ⟨_, rfl⟩
      have hrw4 := hM.out.row.below hb4
      have hl4 := hM.out.len
      have hat4 : Hid (∀ j, j ≤ k → ∃ a c, L[j]? = some (a, (mom C0 wl j).length, c) ∧ PAt w4 w.heap.size a c (mom C0 wl j)) := Lib.hid fun j hj => by
        obtain ⟨a, c, h1, h2⟩ := hM.out.at' j hj
        exact ⟨a, c, h1, h2.below hb4⟩
      have hra4 : Hid (PAt w4 w.heap.size a4 c4 (mom C0 wl (k + 1))) := Lib.hid (PAt.row hr4)
      have hB4 := Lib.hid (hB.out.trans (hb4.mono hB.out.size))
      rw [← hcm]
      rw [show k + 1 = L.length from hl4.symm] at hrw4
      have hA5 : Below w4.heap.size w4 (w4.alloc (.cells #[.slice a4 cm c4] 37)) := (Below.refl _ _).alloc (Nat.le_refl _) _
      have hR5 := Lib.hid (hrw4.below hA5)
      have hS5 := Lib.hid (SrcOf.one w4 37 [.slice a4 cm c4] (by intro y hy; simp at hy; subst hy; rfl))
      have hBB5 := Lib.hid (hB4.out.trans (hA5.mono hB4.out.size))
      have hbb5 := Lib.hid hBB5.out.size
      have hlm5 : Hid (L.length + 1 ≤ maxLen) := Lib.hid (by unfold maxLen; omega)
      have hly5 : Hid ((L.length + 1) * 24 ≤ 140737488355328) := Lib.hid (by omega)
      have hAb := Lib.hid (hra4.out.below hA5)
      have hat5 : Hid (∀ j, j ≤ k → ∃ a c, L[j]? = some (a, (mom C0 wl j).length, c) ∧ PAt (w4.alloc (.cells #[.slice a4 cm c4] 37)) w.heap.size a c (mom C0 wl j)) := Lib.hid fun j hj => by
        obtain ⟨a, c, h1, h2⟩ := hat4.out j hj
        exact ⟨a, c, h1, h2.below hA5⟩
      rw [← hl4]
      replace hl4 := Lib.hid hl4
      replace hcm := Lib.hid hcm
      clear hA5 hM hB hr4 hb4 hrw4 hra4 hat4 hB4
      go_wp2_with (at_builtin; refine wpList_append_row (f := slcel) (M := [(a4, cm, c4)]) _ rfl _ _ 42 rfl w.heap.size 37 i0 (.slice none 0 0) 1 24 Try.underlying42 hi0 hzA hzB hzC rfl (by decide) (.slice oa L.length oc) L rfl hR5.out _ rfl hS5.out hlm5.out hly5.out hbb5.out ?_; intro a6 c6 w6 hrow6 hu6 hat6; replace hrow6 := Lib.hid hrow6; replace hu6 := Lib.hid hu6; replace hat6 := Lib.hid hat6)
      go_roundg (n - (k + 1))
      case rel =>
        have hB6 := hBB5.out.trans (hu6.out.below hBB5.out.size (fun b hb => (hR5.out.lt b (by simpa using hb)).1))
        have hown : Upd (Value.slice oa L.length oc).ownBlock.toList (w4.alloc (.cells #[.slice a4 cm c4] 37)) w6 := hu6.out
        have hnew := hAb.out.upd hR5.out hown
        refine ⟨k + 1, a4, c4, a6, c6, L ++ [(a4, cm, c4)], rfl, by omega, by go_num, by rw [← hcm.out], by rw [hl4.out], hnew.1, ⟨?_, by simp [hl4.out], fun j hj => ?_⟩, hB6⟩
        · have := hrow6.out
          rw [← hl4.out]
          exact this
        · by_cases hjk : j ≤ k
          · obtain ⟨a, c, h1, h2⟩ := hat5.out j hjk
            exact ⟨a, c, by rw [List.getElem?_append_left (List.getElem?_eq_some_iff.1 h1).1]; exact h1, h2.upd hR5.out hown⟩
          · obtain rfl : j = k + 1 := by omega
            refine ⟨a4, c4, ?_, hnew⟩
            rw [List.getElem?_append_right (by have := hl4.out; omega)]
            simp [hl4.out, ← hcm.out]
      case measure => omega
    · obtain rfl : k = n := by omega
      have hl4 := hM.len
      have hfin : Hid (MomsEnd w C0 wl k (.returned (.slice oa (k + 1) oc)) wr) := Lib.hid ⟨oa, oc, L, rfl, hM, hB⟩
      clear hM hB hAt
      go_wp2_with fail
      go_ret
      exact hfin.out

theorem MomsAt.cell {w : World} {base n c : Nat} {a : Option Addr} {C0 : Cont} {wl : List W10} {L : List Sl} (h : MomsAt w base (.slice a (n + 1) c) C0 wl n L) {j : Nat} (hj : j ≤ n) :
    ∃ b pa pc, a = some ⟨b, 0, none⟩ ∧ b < w.heap.size ∧ n + 1 ≤ c ∧ c ≤ 9223372036854775807 ∧ w.cell? ⟨b, j, none⟩ = some (.slice pa (mom C0 wl j).length pc) ∧ At w 2 pcel pa pc (mom C0 wl j) := by
  obtain ⟨pa, pc, h1, h2⟩ := h.at' j hj
  obtain ⟨b, cap, e, _, _, h3, h4, h5, _, hat⟩ := h.row.at h1
  injection e with e1 _ e2
  subst e2
  have := hat 0 _ rfl
  simp only [Nat.mul_one, Nat.add_zero] at this
  refine ⟨b, pa, pc, e1, h3, by have := h.len; omega, ?_, this, h2.1⟩
  have : maxLen ≤ 9223372036854775807 := by unfold maxLen; omega
  omega
set_option maxHeartbeats 1000000 in
theorem found_any (a : Option Addr) (c : Nat) (C0 : Cont) (wl : List W10) (n : Nat) (key value : Str) (found : Bool) {base : Nat} {L : List Sl} (w : World) (h : MomsAt w base (.slice a (n + 1) c) C0 wl n L) (hn2 : n ≤ 1000) (hl : ∀ j, (mom C0 wl j).length ≤ 100000)
    (hex : ∃ j, j ≤ n ∧ (cget (mom C0 wl j) key).getD s0 = value ∧ (cget (mom C0 wl j) key).isSome = found) :
    Calls Try.prog 15 #[.slice a (n + 1) c, .string key, .string value, .bool found] w fun e w' => e = .returned (.bool true) ∧ w = w' := by
  have hc := Lib.hid fun j (hj : j ≤ n) => h.cell hj
  have hg := Lib.hid fun j pa pc (hA : At w 2 pcel pa pc (mom C0 wl j)) => r9get_any pa pc (mom C0 wl j) key w hA (hl j)
  obtain ⟨N, hN⟩ : ∃ N, N = n + 1 := ⟨_, rfl⟩
  rw [← hN] at hc ⊢
  have hN2 : N ≤ 1001 := by omega
  replace hN := Lib.hid hN
  replace hex := Lib.hid hex
  clear h hl
  go_enter Try.func15, Try.ntmps15
  go_wp2_with fail
  go_loopg [9] N (fun gk v wr => ∃ k : Nat, gk = N - k ∧ k ≤ N ∧ v = .int .i64 k ∧ (∀ j, j < k → ¬ ((cget (mom C0 wl j) key).getD s0 = value ∧ (cget (mom C0 wl j) key).isSome = found)) ∧ w = wr)
  case atStart => exact ⟨0, rfl, by omega, rfl, fun j hj => by omega, rfl⟩
  case round =>
    obtain ⟨k, rfl, hk, rfl, hno, rfl⟩ := hrel
    by_cases hlt : k < N
    · obtain ⟨b, pa, pc, rfl, hb, hc1, hc2, k0, hA⟩ := hc.out k (by have := hN.out; omega)
      have hgk := hg.out k pa pc hA
      obtain ⟨cl, hcl⟩ : ∃ cl, cl = (mom C0 wl k).length := ⟨_, rfl⟩
      rw [← hcl] at hgk k0
      have hno2 : ¬ ((cget (mom C0 wl k) key).getD s0 = value ∧ (cget (mom C0 wl k) key).isSome = found) → Hid (∀ j, j < k + 1 → ¬ ((cget (mom C0 wl j) key).getD s0 = value ∧ (cget (mom C0 wl j) key).isSome = found)) := fun h => Lib.hid fun j hj => by
        by_cases e : j = k
        · subst e; exact h
        · exact hno j (by omega)
      obtain ⟨gv, hgv⟩ : ∃ gv, gv = (cget (mom C0 wl k) key).getD s0 := ⟨_, rfl⟩
      obtain ⟨gb, hgb⟩ : ∃ gb, gb = (cget (mom C0 wl k) key).isSome := ⟨_, rfl⟩
      rw [← hgv, ← hgb] at hgk hno2
      clear hcl hgv hgb hA hno hg hc
      have hbe := beq_str gv value
      have hA2 : (k : Int) < (N : Int) := by omega
      have hA3 : (0 : Int) ≤ (k : Int) := by omega
      have hw1 : IntKind.i64.wrap ((k : Int) + 1) = (k : Int) + 1 := IntWalk.i64_in _ (by omega)
      replace hgk := Lib.hid hgk
      by_cases e1 : gv = value
      · rw [decide_eq_true e1] at hbe
        by_cases e2 : gb = found
        · subst e2
          clear hno2 e1
          go_wp2_with fail
          refine hgk.out.mono ?_
          clear hgk
          rintro e w1 ⟨rfl, rfl⟩
          cases gb
          all_goals
            go_wp2_with fail
            go_ret
            exact ⟨by simp, rfl⟩
        · have h3 := hno2 (fun h => e2 h.2)
          clear hno2 e1
          go_wp2_with fail
          refine hgk.out.mono ?_
          clear hgk
          rintro e w1 ⟨rfl, rfl⟩
          cases gb <;> cases found
          all_goals first
            | exact absurd rfl e2
            | (go_wp2_with fail
               go_roundg (N - (k + 1))
               case rel => exact ⟨k + 1, rfl, by omega, by go_num, h3.out, rfl⟩
               case measure => omega)
      · rw [decide_eq_false e1] at hbe
        have h3 := hno2 (fun h => e1 h.1)
        clear hno2 e1
        go_wp2_with fail
        refine hgk.out.mono ?_
        clear hgk
        rintro e w1 ⟨rfl, rfl⟩
        go_wp2_with fail
        go_roundg (N - (k + 1))
        case rel => exact ⟨k + 1, rfl, by omega, by go_num, h3.out, rfl⟩
        case measure => omega
    · obtain ⟨j, h1, h2⟩ := hex.out
      exact absurd h2 (hno j (by have := hN.out; omega))
/-- Is a key passed over? -/
def skips (key : Str) (after : Bool) (o : Option Str) (x : Str) : Bool := !abv key after x || (match o with | some k => !slt x k | none => false)
set_option maxRecDepth 100000 in
set_option maxHeartbeats 2000000 in
theorem least_any (a : Option Addr) (c : Nat) (C0 : Cont) (wl : List W10) (n : Nat) (key : Str) (after : Bool) (o : Option (Str × Str)) {base : Nat} {L : List Sl} (w : World) (h : MomsAt w base (.slice a (n + 1) c) C0 wl n L) (hn2 : n ≤ 1000) (hl : ∀ j, (mom C0 wl j).length ≤ 100000)
    (hkm : key.size ≤ maxLen) (hks : ∀ j, KSz (mom C0 wl j)) (his : ∀ p, o = some p → cget (mom C0 wl n) p.1 = some p.2 ∧ abv key after p.1 = true) (hgap : ∀ x, abv key after x = true → (∀ p, o = some p → slt x p.1 = true) → ∃ j, j ≤ n ∧ cget (mom C0 wl j) x = none) :
    Calls Try.prog 18 #[.slice a (n + 1) c, .string key, .bool after, .string ((o.map (·.1)).getD s0), .string ((o.map (·.2)).getD s0), .bool o.isSome] w fun e w' => e = .returned (.bool true) ∧ Below w.heap.size w w' := by
  have hc := Lib.hid fun j (hj : j ≤ n) => h.cell hj
  have hg := Lib.hid fun W (hW : Below w.heap.size w W) j pa pc (hA : At w 2 pcel pa pc (mom C0 wl j)) k => r9get_any pa pc (mom C0 wl j) k W (hA.below hW) (hl j)
  have hle := Lib.hid fun x W => less_any x key (.inr hkm) W
  have hle2 : Hid (∀ k v, o = some (k, v) → ∀ x W, Calls Try.prog 47 #[.string x, .string k] W fun e w' => e = .returned (.bool (slt x k)) ∧ Below W.heap.size W w') := Lib.hid fun k v ho x W => by
    have h1 := (his _ ho).1
    unfold cget at h1
    simp only [Option.map_eq_some_iff] at h1
    obtain ⟨q, h2, _⟩ := h1
    have h3 := List.mem_of_find?_eq_some h2
    have h4 := List.find?_some h2
    simp only [decide_eq_true_eq] at h4
    exact less_any x k (.inr (by rw [← h4]; exact hks n q h3)) W
  obtain ⟨b, pa, pc, rfl, hb, hc1, hc2, k0, hA0⟩ := hc.out n (Nat.le_refl _)
  have hpc := Lib.hid fun i x hx => pair_cells hA0 (i := i) (x := x) hx
  have hln := hl n
  have hgn := Lib.hid fun W (hW : Below w.heap.size w W) k => hg.out W hW n pa pc hA0 k
  obtain ⟨cl, hcl⟩ : ∃ cl, cl = (mom C0 wl n).length := ⟨_, rfl⟩
  rw [← hcl] at hln k0 hgn
  replace hcl := Lib.hid hcl
  obtain ⟨N, hN⟩ : ∃ N, N = n + 1 := ⟨_, rfl⟩
  rw [← hN] at hc1 ⊢
  have hN2 : N ≤ 1001 := by omega
  have hN3 : n < N := by omega
  have hsub : IntKind.i64.wrap ((N : Int) - 1) = (n : Int) := by rw [IntWalk.i64_in _ (by omega)]; omega
  replace hN := Lib.hid hN
  replace hgap := Lib.hid hgap
  replace his := Lib.hid his
  clear h hl hks hA0 hkm
  cases o with
  | some p =>
    obtain ⟨k, v⟩ := p
    have hlk := Lib.hid (hle2.out k v rfl)
    obtain ⟨i1, i2⟩ := his.out (k, v) rfl
    have hgk := hgn.out w (Below.refl _ _) k
    simp only at i1 i2
    rw [i1] at hgk
    simp only [Option.getD_some, Option.isSome_some, Option.map_some] at hgk ⊢
    have hvv := beq_str v v
    rw [decide_eq_true rfl] at hvv
    have hsk : slt k key = false := by
      unfold abv at i2
      cases after
      · exact sle_iff.1 i2
      · exact slt_asymm i2
    have hka : after = true → (k.toList == key.toList) = false := fun h => by
      rw [beq_str]
      unfold abv at i2
      subst h
      exact decide_eq_false (fun e => by rw [e] at i2; simp [slt_irrefl] at i2)
    have hl1 := hle.out k w
    rw [hsk] at hl1
    replace hgk := Lib.hid hgk
    replace hl1 := Lib.hid hl1
    clear i1 i2 hsk hle2 his hgn
    go_enter Try.func18, Try.ntmps18
    go_wp2_with fail
    refine hgk.out.mono ?_
    clear hgk
    rintro e w1 ⟨rfl, rfl⟩
    go_upto_region 4 with fail
    go_cut [54] (fun v wz => v = .bool false ∧ Below w.heap.size w wz)
    case first =>
      cases after with
      | true =>
        have hka2 := hka rfl
        clear hka
        go_wp2_with fail
        refine hl1.out.mono ?_
        clear hl1
        rintro e w3 ⟨rfl, hb3⟩
        go_wp2_with fail
        go_meet
        exact ⟨by simp, hb3⟩
      | false =>
        clear hka
        go_wp2_with fail
        refine hl1.out.mono ?_
        clear hl1
        rintro e w3 ⟨rfl, hb3⟩
        go_wp2_with fail
        go_meet
        exact ⟨by simp, hb3⟩
    case rest =>
    obtain ⟨rfl, hb4⟩ := hcut
    have hB3 := Lib.hid hb4
    have hk0 := k0
    clear hb4 hka hl1 k0
    go_wp2_with fail
    replace hk0 := Lib.hid hk0
    go_loopg [16] cl (fun gk v wr => ∃ i : Nat, gk = cl - i ∧ i ≤ cl ∧ v = .int .i64 i ∧ Below w.heap.size w wr)
    case atStart => exact ⟨0, rfl, by omega, rfl, hB3.out⟩
    case round =>
      obtain ⟨i, rfl, hi, rfl, hB⟩ := hrel
      by_cases hlt : i < cl
      · obtain ⟨q, hq⟩ : ∃ q, (mom C0 wl n)[i]? = some q := ⟨_, List.getElem?_eq_getElem (by have := hcl.out; omega)⟩
        obtain ⟨b2, o2, hpa, hbb, hl1, hcc, j0, j1⟩ := hpc.out i q hq
        subst hpa
        rw [← hcl.out] at hl1
        replace j0 := keep hB j0
        have hbw := block_lt_of_cell j0
        have hA2 : (i : Int) < (cl : Int) := by omega
        have hA3 : (0 : Int) ≤ (i : Int) := by omega
        have hw1 : IntKind.i64.wrap ((i : Int) + 1) = (i : Int) + 1 := IntWalk.i64_in _ (by omega)
        obtain ⟨x, y⟩ := q
        simp only at j0 j1
        have hbe := beq_str x key
        replace hB := Lib.hid hB
        clear hq j1
        go_upto_region 10 with fail
        go_cut [85] (fun v wz => v = .bool (skips key after (some k) x) ∧ Below wr.heap.size wr wz)
        case first =>
          clear j0 hbw
          go_wp2_with fail
          refine (hle.out x _).mono ?_
          rintro e w5 ⟨rfl, hb5⟩
          have hB5 := Lib.hid hb5
          clear hb5
          cases hs : slt x key with
          | true =>
            have hs2 := slt_asymm hs
            go_wp2_with fail
            go_meet
            exact ⟨by cases after <;> simp [skips, abv, sle, hs, hs2], hB5.out⟩
          | false =>
            cases after with
            | true =>
              by_cases e1 : x = key
              · rw [decide_eq_true e1] at hbe
                have e2 := Lib.hid e1
                clear e1
                go_wp2_with fail
                go_meet
                exact ⟨by simp [skips, abv, e2.out, slt_irrefl], hB5.out⟩
              · rw [decide_eq_false e1] at hbe
                have hab : slt key x = true := by
                  cases h3 : slt key x
                  · exact absurd (slt_eq hs h3) e1
                  · rfl
                go_wp2_with fail
                refine (hlk.out x _).mono ?_
                rintro e w6 ⟨rfl, hb6⟩
                have hB6 := Lib.hid (hB5.out.trans (hb6.mono hB5.out.size))
                clear hb6
                cases hxk : slt x k
                all_goals
                  go_wp2_with fail
                  go_meet
                  exact ⟨by simp [skips, abv, hab, hxk], hB6.out⟩
            | false =>
              have hab : sle key x = true := by unfold sle; rw [hs]; rfl
              go_wp2_with fail
              refine (hlk.out x _).mono ?_
              rintro e w6 ⟨rfl, hb6⟩
              have hB6 := Lib.hid (hB5.out.trans (hb6.mono hB5.out.size))
              clear hb6
              cases hxk : slt x k
              all_goals
                go_wp2_with fail
                go_meet
                exact ⟨by simp [skips, abv, hab, hxk], hB6.out⟩
        case rest =>
          obtain ⟨rfl, hb7⟩ := hcut
          have hB7 := Lib.hid (hB.out.trans (hb7.mono hB.out.size))
          clear hb7 hB hbw j0
          cases hsk : skips key after (some k) x with
          | true =>
            clear hsk
            go_wp2_with fail
            go_roundg (cl - (i + 1))
            case rel => exact ⟨i + 1, rfl, by omega, by go_num, hB7.out⟩
            case measure => omega
          | false =>
            unfold skips at hsk
            simp at hsk
            obtain ⟨j, hj1, hj2⟩ := hgap.out x hsk.1 (fun p hp => by injection hp with hp; rw [← hp]; exact hsk.2)
            replace hj2 := Lib.hid hj2
            clear hsk
            obtain ⟨CL, hCL⟩ : ∃ CL, CL = cl - i := ⟨_, rfl⟩
            rename_i w9
            go_wp2_with fail
            go_loopg [18, 19] N (fun gk bv v wq => ∃ (m : Nat) (bb : Bool), gk = N - m ∧ m ≤ N ∧ bv = .bool bb ∧ v = .int .i64 m ∧ (bb = true → ∀ j, j < m → (cget (mom C0 wl j) x).isSome = true) ∧ Below w.heap.size w wq)
            case atStart => exact ⟨0, true, rfl, by omega, rfl, rfl, fun _ j hj => by omega, hB7.out⟩
            case round =>
              clear hB7
              obtain ⟨m, bb, rfl, hm, rfl, rfl, hbb2, hB⟩ := hrel
              by_cases hmn : m < N
              · obtain ⟨b3, pa3, pc3, e3, _, _, _, k3, hA3x⟩ := hc.out m (by have := hN.out; omega)
                injection e3 with e3
                injection e3 with e3
                subst e3
                replace k3 := keep hB k3
                have hbw3 := block_lt_of_cell k3
                have hgm := hg.out wr hB m pa3 pc3 hA3x x
                obtain ⟨gv, hgv⟩ : ∃ gv, gv = (cget (mom C0 wl m) x).getD s0 := ⟨_, rfl⟩
                obtain ⟨gb, hgb⟩ : ∃ gb, gb = (cget (mom C0 wl m) x).isSome := ⟨_, rfl⟩
                obtain ⟨cm, hcm⟩ : ∃ cm, cm = (mom C0 wl m).length := ⟨_, rfl⟩
                rw [← hgv, ← hgb, ← hcm] at hgm
                rw [← hcm] at k3
                have hb3 : Hid ((bb && gb) = true → ∀ j, j < m + 1 → (cget (mom C0 wl j) x).isSome = true) := Lib.hid fun h j hj => by
                  rw [Bool.and_eq_true] at h
                  by_cases e : j = m
                  · subst e; rw [← hgb]; exact h.2
                  · exact hbb2 h.1 j (by omega)
                clear hgv hgb hcm hA3x hbb2
                have hM2 : (m : Int) < (N : Int) := by omega
                have hM3 : (0 : Int) ≤ (m : Int) := by omega
                have hwm : IntKind.i64.wrap ((m : Int) + 1) = (m : Int) + 1 := IntWalk.i64_in _ (by omega)
                replace hgm := Lib.hid hgm
                replace hB := Lib.hid hB
                go_wp2_with fail
                refine hgm.out.mono ?_
                clear hgm
                rintro e w6 ⟨rfl, rfl⟩
                cases bb <;> cases gb
                all_goals
                  go_wp2_with fail
                  go_roundg (N - (m + 1))
                  case rel => exact ⟨m + 1, _, rfl, by omega, rfl, by go_num, hb3.out, hB.out⟩
                  case measure => omega
              · have hmN : m = N := by omega
                cases bb with
                | true =>
                  have := hbb2 rfl j (by have := hN.out; omega)
                  rw [hj2.out] at this
                  cases this
                | false =>
                  replace hB := Lib.hid hB
                  clear hbb2
                  go_wp2_with fail
                  go_roundg (cl - (i + 1))
                  case rel => exact ⟨i + 1, rfl, by omega, by go_num, hB.out⟩
                  case measure => omega
      · obtain rfl : i = cl := by omega
        replace hB := Lib.hid hB
        go_wp2_with fail
        go_ret
        exact ⟨by simp, hB.out⟩
  | none =>
    simp only [Option.map_none, Option.getD_none, Option.isSome_none]
    have hk0 := k0
    clear hle2 his hgn
    go_enter Try.func18, Try.ntmps18
    go_wp2_with fail
    clear k0
    replace hk0 := Lib.hid hk0
    go_loopg [16] cl (fun gk v wr => ∃ i : Nat, gk = cl - i ∧ i ≤ cl ∧ v = .int .i64 i ∧ Below w.heap.size w wr)
    case atStart => exact ⟨0, rfl, by omega, rfl, Below.refl _ _⟩
    case round =>
      obtain ⟨i, rfl, hi, rfl, hB⟩ := hrel
      by_cases hlt : i < cl
      · obtain ⟨q, hq⟩ : ∃ q, (mom C0 wl n)[i]? = some q := ⟨_, List.getElem?_eq_getElem (by have := hcl.out; omega)⟩
        obtain ⟨b2, o2, hpa, hbb, hl1, hcc, j0, j1⟩ := hpc.out i q hq
        subst hpa
        rw [← hcl.out] at hl1
        replace j0 := keep hB j0
        have hbw := block_lt_of_cell j0
        have hA2 : (i : Int) < (cl : Int) := by omega
        have hA3 : (0 : Int) ≤ (i : Int) := by omega
        have hw1 : IntKind.i64.wrap ((i : Int) + 1) = (i : Int) + 1 := IntWalk.i64_in _ (by omega)
        obtain ⟨x, y⟩ := q
        simp only at j0 j1
        have hbe := beq_str x key
        replace hB := Lib.hid hB
        clear hq j1
        go_upto_region 10 with fail
        go_cut [85] (fun v wz => v = .bool (skips key after none x) ∧ Below wr.heap.size wr wz)
        case first =>
          clear j0 hbw
          go_wp2_with fail
          refine (hle.out x _).mono ?_
          rintro e w5 ⟨rfl, hb5⟩
          have hB5 := Lib.hid hb5
          clear hb5
          cases hs : slt x key with
          | true =>
            have hs2 := slt_asymm hs
            go_wp2_with fail
            go_meet
            exact ⟨by cases after <;> simp [skips, abv, sle, hs, hs2], hB5.out⟩
          | false =>
            cases after with
            | true =>
              by_cases e1 : x = key
              · rw [decide_eq_true e1] at hbe
                have e2 := Lib.hid e1
                clear e1
                go_wp2_with fail
                go_meet
                exact ⟨by simp [skips, abv, e2.out, slt_irrefl], hB5.out⟩
              · rw [decide_eq_false e1] at hbe
                have hab : slt key x = true := by
                  cases h3 : slt key x
                  · exact absurd (slt_eq hs h3) e1
                  · rfl
                go_wp2_with fail
                go_meet
                exact ⟨by simp [skips, abv, hab], hB5.out⟩
            | false =>
              have hab : sle key x = true := by unfold sle; rw [hs]; rfl
              go_wp2_with fail
              go_meet
              exact ⟨by simp [skips, abv, hab], hB5.out⟩
        case rest =>
          obtain ⟨rfl, hb7⟩ := hcut
          have hB7 := Lib.hid (hB.out.trans (hb7.mono hB.out.size))
          clear hb7 hB hbw j0
          cases hsk : skips key after none x with
          | true =>
            clear hsk
            go_wp2_with fail
            go_roundg (cl - (i + 1))
            case rel => exact ⟨i + 1, rfl, by omega, by go_num, hB7.out⟩
            case measure => omega
          | false =>
            unfold skips at hsk
            simp at hsk
            obtain ⟨j, hj1, hj2⟩ := hgap.out x hsk (fun p hp => by cases hp)
            replace hj2 := Lib.hid hj2
            clear hsk
            obtain ⟨CL, hCL⟩ : ∃ CL, CL = cl - i := ⟨_, rfl⟩
            rename_i w9
            go_wp2_with fail
            go_loopg [18, 19] N (fun gk bv v wq => ∃ (m : Nat) (bb : Bool), gk = N - m ∧ m ≤ N ∧ bv = .bool bb ∧ v = .int .i64 m ∧ (bb = true → ∀ j, j < m → (cget (mom C0 wl j) x).isSome = true) ∧ Below w.heap.size w wq)
            case atStart => exact ⟨0, true, rfl, by omega, rfl, rfl, fun _ j hj => by omega, hB7.out⟩
            case round =>
              clear hB7
              obtain ⟨m, bb, rfl, hm, rfl, rfl, hbb2, hB⟩ := hrel
              by_cases hmn : m < N
              · obtain ⟨b3, pa3, pc3, e3, _, _, _, k3, hA3x⟩ := hc.out m (by have := hN.out; omega)
                injection e3 with e3
                injection e3 with e3
                subst e3
                replace k3 := keep hB k3
                have hbw3 := block_lt_of_cell k3
                have hgm := hg.out wr hB m pa3 pc3 hA3x x
                obtain ⟨gv, hgv⟩ : ∃ gv, gv = (cget (mom C0 wl m) x).getD s0 := ⟨_, rfl⟩
                obtain ⟨gb, hgb⟩ : ∃ gb, gb = (cget (mom C0 wl m) x).isSome := ⟨_, rfl⟩
                obtain ⟨cm, hcm⟩ : ∃ cm, cm = (mom C0 wl m).length := ⟨_, rfl⟩
                rw [← hgv, ← hgb, ← hcm] at hgm
                rw [← hcm] at k3
                have hb3 : Hid ((bb && gb) = true → ∀ j, j < m + 1 → (cget (mom C0 wl j) x).isSome = true) := Lib.hid fun h j hj => by
                  rw [Bool.and_eq_true] at h
                  by_cases e : j = m
                  · subst e; rw [← hgb]; exact h.2
                  · exact hbb2 h.1 j (by omega)
                clear hgv hgb hcm hA3x hbb2
                have hM2 : (m : Int) < (N : Int) := by omega
                have hM3 : (0 : Int) ≤ (m : Int) := by omega
                have hwm : IntKind.i64.wrap ((m : Int) + 1) = (m : Int) + 1 := IntWalk.i64_in _ (by omega)
                replace hgm := Lib.hid hgm
                replace hB := Lib.hid hB
                go_wp2_with fail
                refine hgm.out.mono ?_
                clear hgm
                rintro e w6 ⟨rfl, rfl⟩
                cases bb <;> cases gb
                all_goals
                  go_wp2_with fail
                  go_roundg (N - (m + 1))
                  case rel => exact ⟨m + 1, _, rfl, by omega, rfl, by go_num, hb3.out, hB.out⟩
                  case measure => omega
              · have hmN : m = N := by omega
                cases bb with
                | true =>
                  have := hbb2 rfl j (by have := hN.out; omega)
                  rw [hj2.out] at this
                  cases this
                | false =>
                  replace hB := Lib.hid hB
                  clear hbb2
                  go_wp2_with fail
                  go_roundg (cl - (i + 1))
                  case rel => exact ⟨i + 1, rfl, by omega, by go_num, hB.out⟩
                  case measure => omega
      · obtain rfl : i = cl := by omega
        replace hB := Lib.hid hB
        go_wp2_with fail
        go_ret
        exact ⟨by simp, hB.out⟩
end Go.Proofs.Ytlhobbfncjjeaaa
