/- What the B-link tree's laws share: acts that came in, Great, what is left of acts. The contract of the helper 'made' of the B-link tree's laws: a tree of a pool of its own with what acts leave. The helper 'pairs' of the B-link tree's laws at one content; what a content's pairs, put from the greatest on, leave. -/
import Derived.Test.YtlhobbfncjjeaaaBkAwake
import Derived.Test.YtlhobbfncjjeaaaFlat
namespace Go.Proofs.Ytlhobbfncjjeaaa
open Go.RowKit
/-- An act: Do, Key, Value, After. -/
abbrev A10 := Int × Str × Str × Bool
def ACell (w : World) (b o : Nat) (x : A10) : Prop := w.cell? ⟨b, o, none⟩ = some (.int .i64 x.1) ∧ w.cell? ⟨b, o + 1, none⟩ = some (.string x.2.1) ∧ w.cell? ⟨b, o + 2, none⟩ = some (.string x.2.2.1) ∧ w.cell? ⟨b, o + 3, none⟩ = some (.bool x.2.2.2)
/-- A slice has these acts. -/
def Acts (w : World) (s : Option Addr) (L : List A10) : Prop := ∀ k x, L[k]? = some x → ∃ b off, s = some ⟨b, off, none⟩ ∧ b < w.heap.size ∧ ACell w b (off + k * 4) x
/-- No text of an act is longer than a text can be. -/
def Sizes (L : List A10) : Prop := ∀ x, x ∈ L → x.2.1.size ≤ maxLen ∧ x.2.2.1.size ≤ maxLen
theorem ACell.below {w w' : World} {b o : Nat} {x : A10} (h : ACell w b o x) (hb : Below w.heap.size w w') : ACell w' b o x := ⟨keep hb h.1, keep hb h.2.1, keep hb h.2.2.1, keep hb h.2.2.2⟩
theorem Acts.below {w w' : World} {s : Option Addr} {L : List A10} (h : Acts w s L) (hb : Below w.heap.size w w') : Acts w' s L := fun k x hx => by
  obtain ⟨b, off, h1, h2, h3⟩ := h k x hx
  exact ⟨b, off, h1, Nat.lt_of_lt_of_le h2 hb.size, h3.below hb⟩
abbrev act10K : List Kd := [.inl .i64, .inr false, .inr false, .inr true]
theorem acts_row {w : World} {s : Option Addr} {len : Nat} {rows : List (List Value)} (hr : IsFlat act10K w s len rows) :
    ∀ k, k < len → ∃ x : A10, ∃ b off, s = some ⟨b, off, none⟩ ∧ b < w.heap.size ∧ ACell w b (off + k * 4) x ∧ x.2.1.size ≤ maxLen ∧ x.2.2.1.size ≤ maxLen := by
  intro k hk
  rcases hr with ⟨h0, _⟩ | ⟨b, off, hs, _, _, hb, hc⟩
  · omega
  obtain ⟨h1, h2⟩ := hc k hk
  generalize rows.getD k [] = r at *
  obtain ⟨v0, v1, v2, v3, rfl, ⟨n0, rfl, q0⟩, ⟨x1, rfl, q1⟩, ⟨x2, rfl, q2⟩, ⟨b3, rfl⟩⟩ := h1.of4
  have g0 := h2 0 (by simp)
  have g1 := h2 1 (by simp)
  have g2 := h2 2 (by simp)
  have g3 := h2 3 (by simp)
  simp only [List.length_cons, List.length_nil, Nat.zero_add, Nat.reduceAdd, Nat.add_zero, ← Nat.add_assoc, List.getElem?_cons_zero, List.getElem?_cons_succ] at g0 g1 g2 g3
  exact ⟨(n0, x1, x2, b3), b, off, hs, hb, ⟨g0, g1, g2, g3⟩, q1, q2⟩
theorem acts_of_flat {w : World} {s : Option Addr} {len : Nat} {rows : List (List Value)} (hr : IsFlat act10K w s len rows) : ∃ L : List A10, L.length = len ∧ Acts w s L ∧ Sizes L := by
  have key : ∀ n, n ≤ len → ∃ L : List A10, L.length = n ∧ Acts w s L ∧ Sizes L := by
    intro n
    induction n with
    | zero => exact fun _ => ⟨[], rfl, fun k x hx => by simp at hx, fun x hx => by cases hx⟩
    | succ n ih =>
      intro hn
      obtain ⟨L, hL, hA, hS⟩ := ih (by omega)
      obtain ⟨y, b, off, y1, y2, y3, y4⟩ := acts_row hr n (by omega)
      refine ⟨L ++ [y], by simp [hL], fun k x hx => ?_, fun x hx => ?_⟩
      rotate_left 1
      · rcases List.mem_append.1 hx with h1 | h1
        · exact hS x h1
        · simp at h1
          subst h1
          exact y4
      rcases Nat.lt_or_ge k L.length with h1 | h1
      · rw [List.getElem?_append_left h1] at hx
        exact hA k x hx
      · rw [List.getElem?_append_right h1] at hx
        have h2 := (List.getElem?_eq_some_iff.1 hx).1
        simp at h2
        have h3 : k = n := by omega
        subst h3
        rw [hL] at hx
        simp at hx
        rw [← hx]
        exact ⟨b, off, y1, y2, y3⟩
  exact key len (Nat.le_refl _)
/-- What is left of acts: Puts and Deletes alone. -/
def stepC (C : Cont) (x : A10) : Cont := if x.1 = 0 then cput C x.2.1 x.2.2.1 else if x.1 = 1 then cdel C x.2.1 else C
def doneC (L : List A10) : Cont := L.foldl stepC []
theorem doneC_snoc (L : List A10) (x : A10) : doneC (L ++ [x]) = stepC (doneC L) x := by simp [doneC]
theorem take_next {α : Type} {L : List α} {k : Nat} {x : α} (h : L[k]? = some x) : L.take (k + 1) = L.take k ++ [x] := by
  obtain ⟨h1, h2⟩ := List.getElem?_eq_some_iff.1 h
  rw [List.take_succ_eq_append_getElem h1, h2]
theorem TreeIs.loose {w0 w : World} {p t c0 lv : Nat} {C : Cont} {fat : Bool} (h : TreeIs w0 w p t C c0 lv fat) : TreeIs w0 w p t C c0 lv false := by
  obtain ⟨ρ, P, gens, free, D, rt, i, d, Ls, r, h1, h2, h3, h4, h5, h6, h7, h8⟩ := h
  exact ⟨ρ, P, gens, free, D, rt, i, d, Ls, r, h1, h2, h3, h4, h5, h6, h7, fun h => by cases h⟩
theorem TreeIs.cput_le {w0 w : World} {p t c0 lv : Nat} {C : Cont} {fat : Bool} (h : TreeIs w0 w p t C c0 lv fat) (k v : Str) : (cput C k v).length ≤ C.length + 1 := by
  rw [cput_len h.sorted]
  split <;> omega
theorem TreeIs.cdel_le {w0 w : World} {p t c0 lv : Nat} {C : Cont} {fat : Bool} (h : TreeIs w0 w p t C c0 lv fat) (k : Str) : (cdel C k).length ≤ C.length := by
  rw [(cdel_len h.sorted k).1]
  split <;> omega
set_option maxHeartbeats 1000000 in
theorem great10_any (s : Option Addr) (cap : Nat) (L : List A10) (w : World) (hr : Acts w s L) (hsz : Sizes L) (hlen : L.length ≤ maxLen) :
    Calls Try.prog 20 #[.slice s L.length cap] w fun e w' => (e = .returned (.bool true) ∨ (e = .returned (.bool false) ∧ L.length ≤ 300)) ∧ Below w.heap.size w w' := by
  have hro := Lib.hid hr
  have hszs := Lib.hid hsz
  clear hr hsz
  unfold maxLen at hlen
  go_enter Try.func20, Try.ntmps20
  go_wp2_with fail
  obtain ⟨len, hle⟩ : ∃ len, len = L.length := ⟨_, rfl⟩
  rw [← hle] at hlen ⊢
  replace hle := Lib.hid hle
  go_loopw [3, 4] (fun n i wr => ∃ (k : Nat) (m : Nat), k ≤ len ∧ k ≤ 301 ∧ n = .int .i64 m ∧ i = .int .i64 k ∧ m ≤ k * 80002 ∧ Below w.heap.size w wr) (fun _ i _ => len - (intOf i).toNat)
  case atStart => exact ⟨0, 0, Nat.zero_le _, Nat.zero_le _, rfl, rfl, by omega, Below.refl _ _⟩
  case round =>
    obtain ⟨k, m, hk, hk2, rfl, rfl, hm, hB⟩ := hrel
    replace hB := Lib.hid hB
    by_cases hlt : k < len
    · by_cases h2 : k ≤ 300
      · obtain ⟨x, hx⟩ : ∃ x, L[k]? = some x := ⟨_, List.getElem?_eq_getElem (by have := hle.out; omega)⟩
        obtain ⟨b, off, rfl, hbw, hact⟩ := hro.out k x hx
        obtain ⟨hx1, hx2⟩ := hszs.out x (List.mem_of_getElem? hx)
        have g1 := keep hB.out hact.2.1
        have g2 := keep hB.out hact.2.2.1
        unfold maxLen at hx1 hx2
        obtain ⟨dd, x1, x2, aft⟩ := x
        simp only at g1 g2 hx1 hx2
        have hA2 : (k : Int) < (len : Int) := by omega
        have hA3 : (0 : Int) ≤ (k : Int) := by omega
        clear hact hro hx
        have hmin : ∀ x : Str, ∃ y : Nat, (if (40001 : Int) < (x.size : Int) then (40001 : Int) else (x.size : Int)) = y ∧ y ≤ 40001 := fun x => by
          by_cases hh : (40001 : Int) < (x.size : Int)
          · exact ⟨40001, by simp [hh], by omega⟩
          · exact ⟨x.size, by simp [hh], by omega⟩
        obtain ⟨y1, hy1, hz1⟩ := hmin x1
        obtain ⟨y2, hy2, hz2⟩ := hmin x2
        have hs1 : IntKind.i64.wrap ((m : Int) + (y1 : Int)) = (m : Int) + (y1 : Int) := IntWalk.i64_in _ (by omega)
        have hs2 : IntKind.i64.wrap ((m : Int) + (y1 : Int) + (y2 : Int)) = (m : Int) + (y1 : Int) + (y2 : Int) := IntWalk.i64_in _ (by omega)
        clear hmin
        go_wp2_with fail
        go_quiet (fail)
        go_wp2_with fail
        go_roundw
        case rel => exact ⟨k + 1, m + y1 + y2, by omega, by omega, by simp, by go_num, by rw [Nat.add_mul]; omega, below_drewN hB.out _⟩
        case measure => simp [intOf]; omega
      · have hk3 : (k : Int) = 301 := by omega
        go_wp2_with fail
        all_goals
          go_ret
          exact ⟨.inl rfl, hB.out⟩
    · have hk3 : (k : Int) = len := by omega
      have hm6 : m ≤ 40000 ∨ 40000 < m := by omega
      by_cases h200 : 300 < len
      · go_wp2_with fail
        go_ret
        exact ⟨.inl rfl, hB.out⟩
      rcases hm6 with hm6 | hm6
      · go_wp2_with fail
        go_ret
        refine ⟨.inr ⟨?_, by have := hle.out; omega⟩, hB.out⟩
        simp
        omega
      · go_wp2_with fail
        go_ret
        refine ⟨.inl ?_, hB.out⟩
        simp
        omega
end Go.Proofs.Ytlhobbfncjjeaaa
namespace Go.Proofs.Ytlhobbfncjjeaaa
open Go.RowKit
def MadeEnd (w : World) (L : List A10) (e : Ending) (w' : World) : Prop := ∃ p t, e = .returned (.tuple #[.pointer (some ⟨t, 0, none⟩), .pointer (some ⟨p, 0, none⟩), .bool true]) ∧ TreeIs w w' p t (doneC L) 4096 301 false ∧ (doneC L).length ≤ L.length
set_option maxRecDepth 100000 in
set_option maxHeartbeats 2000000 in
theorem made10_any (s : Option Addr) (cap : Nat) (L : List A10) (w : World) (hr : Acts w s L) (hlen : L.length ≤ 300) :
    Calls Try.prog 21 #[.slice s L.length cap] w (MadeEnd w L) := by
  have hro := Lib.hid hr
  clear hr
  go_enter Try.func21, Try.ntmps21
  go_wp2_with fail
  refine (show Calls Try.prog 10 #[.int .i64 4096] w _ from arNewPool_some 4096 w (by omega) (by omega)).mono ?_
  rintro e w1 ⟨p, g, f, rfl, hB1, hp1, hg1, hf1, hP1⟩
  have hNw := Lib.hid (TreeIs.new (w0 := w) hB1 hP1 ⟨hp1, hg1, hf1⟩ (by omega))
  clear hP1 hB1
  go_wp2_with fail
  refine hNw.out.mono ?_
  clear hNw
  rintro e w2 ⟨t, rfl, hT⟩
  replace hT := Lib.hid hT.loose
  obtain ⟨len, hle⟩ : ∃ len, len = L.length := ⟨_, rfl⟩
  rw [← hle] at hlen ⊢
  replace hle := Lib.hid hle
  go_wp2_with fail
  go_loopg [8] len (fun gk v wr => ∃ k : Nat, gk = len - k ∧ k ≤ len ∧ v = .int .i64 k ∧ TreeIs w wr p t (doneC (L.take k)) 4096 (k + 1) false ∧ (doneC (L.take k)).length ≤ k)
  case atStart => exact ⟨0, rfl, by omega, rfl, hT.out, by simp [doneC]⟩
  case round =>
    clear hT
    obtain ⟨k, rfl, hk, rfl, hT, hCl⟩ := hrel
    by_cases hlt : k < len
    · obtain ⟨x, hx⟩ : ∃ x, L[k]? = some x := ⟨_, List.getElem?_eq_getElem (by have := hle.out; omega)⟩
      obtain ⟨b, off, rfl, hbw, hact⟩ := hro.out k x hx
      have hsn : Hid (doneC (L.take (k + 1)) = stepC (doneC (L.take k)) x) := Lib.hid (by rw [take_next hx, doneC_snoc])
      have hl1 := Lib.hid (hT.cput_le x.2.1 x.2.2.1)
      have hl2 := Lib.hid (hT.cdel_le x.2.1)
      have hPu := Lib.hid fun W (hW : Below wr.heap.size wr W) => (hT.below hW).put (hh := 9) (by omega) (by omega) (by omega) (by omega) x.2.1 x.2.2.1
      have hDe := Lib.hid fun W (hW : Below wr.heap.size wr W) => (hT.below hW).delete (by omega) (by omega) x.2.1
      have hT' := Lib.hid hT
      obtain ⟨g0, g1, g2, g3⟩ := hact.below hT.bel
      have hbw2 := block_lt_of_cell g0
      obtain ⟨C, hC⟩ : ∃ C, C = doneC (L.take k) := ⟨_, rfl⟩
      rw [← hC] at hCl hsn hl1 hl2 hPu hDe hT'
      clear hT hC hact
      obtain ⟨dd, x1, x2, aft⟩ := x
      simp only at g0 g1 g2 g3 hl1 hl2 hPu hDe
      have hA2 : (k : Int) < (len : Int) := by omega
      have hA3 : (0 : Int) ≤ (k : Int) := by omega
      have hw1 : IntKind.i64.wrap ((k : Int) + 1) = (k : Int) + 1 := IntWalk.i64_in _ (by omega)
      replace hx := Lib.hid hx
      by_cases h0 : dd = 0
      · subst h0
        go_upto_region 12 with fail
        go_region_with (go_at_call 25; refine (hPu.out _ (Below.refl _ _).drew).mono ?_; rintro z w5 ⟨rfl, hT5⟩; replace hT5 := Lib.hid hT5)
        all_goals
          go_wp2_with fail
          go_roundg (len - (k + 1))
          case rel =>
            refine ⟨k + 1, rfl, by omega, by go_num, ?_, ?_⟩
            · rw [hsn.out]; exact hT5.out
            · rw [hsn.out]
              have := hl1.out
              show (cput C x1 x2).length ≤ k + 1
              omega
          case measure => omega
      · have h0b : (dd == 0) = false := by simpa using h0
        by_cases h1 : dd = 1
        · subst h1
          replace h0 := Lib.hid h0
          go_wp2_with fail
          refine (hDe.out _ (Below.refl _ _)).mono ?_
          rintro z w5 ⟨rfl, hT5⟩
          replace hT5 := Lib.hid hT5.loose
          go_wp2_with fail
          go_roundg (len - (k + 1))
          case rel =>
            refine ⟨k + 1, rfl, by omega, by go_num, ?_, ?_⟩
            · rw [hsn.out]; exact hT5.out.up (by omega)
            · rw [hsn.out]
              have := hl2.out
              show (cdel C x1).length ≤ k + 1
              omega
          case measure => omega
        · have h1b : (dd == 1) = false := by simpa using h1
          have hst : Hid (stepC C (dd, x1, x2, aft) = C) := Lib.hid (by unfold stepC; rw [if_neg h0, if_neg h1])
          replace h0 := Lib.hid h0
          replace h1 := Lib.hid h1
          go_wp2_with fail
          go_roundg (len - (k + 1))
          case rel =>
            refine ⟨k + 1, rfl, by omega, by go_num, ?_, ?_⟩
            · rw [hsn.out, hst.out]; exact hT'.out.up (by omega)
            · rw [hsn.out, hst.out]; omega
          case measure => omega
    · obtain rfl : k = len := by omega
      have hLt : L.take k = L := List.take_of_length_le (by have := hle.out; omega)
      rw [hLt] at hT hCl
      replace hT := Lib.hid hT
      replace hCl := Lib.hid hCl
      go_wp2_with fail
      go_ret3
      exact ⟨p, t, rfl, hT.out.up (by omega), by have := hle.out; have := hCl.out; omega⟩
end Go.Proofs.Ytlhobbfncjjeaaa
namespace Go.Proofs.Ytlhobbfncjjeaaa
open Go.RowKit
/-- A pair as an act: a Put. -/
def toAct (p : Str × Str) : A10 := (0, p.1, p.2, false)
theorem doneC_rev : ∀ {C : Cont}, CSort C → doneC (C.reverse.map toAct) = C
  | [], _ => rfl
  | p :: C, h => by
    obtain ⟨h1, h2⟩ := List.pairwise_cons.1 h
    rw [List.reverse_cons, List.map_append, List.map_cons, List.map_nil, doneC_snoc, doneC_rev h2]
    show cput C p.1 p.2 = p :: C
    unfold cput
    rw [filter_none (fun q hq => slt_asymm (h1 q hq)), filter_all (fun q hq => h1 q hq)]
    rfl
theorem pair_cells {w : World} {a : Option Addr} {c : Nat} {C : Cont} (h : At w 2 pcel a c C) {i : Nat} {x : Str × Str} (hx : C[i]? = some x) :
    ∃ b o, a = some ⟨b, o, none⟩ ∧ b < w.heap.size ∧ C.length ≤ c ∧ c ≤ 9223372036854775807 ∧ w.cell? ⟨b, o + i * 2, none⟩ = some (.string x.1) ∧ w.cell? ⟨b, o + i * 2 + 1, none⟩ = some (.string x.2) := by
  obtain ⟨b, o, e, h1, h2, h3, h4⟩ := h.some (by have := (List.getElem?_eq_some_iff.1 hx).1; omega)
  exact ⟨b, o, e, h1, h2, h3, by simpa using h4 i x hx 0 _ rfl, h4 i x hx 1 _ rfl⟩
set_option maxRecDepth 100000 in
set_option maxHeartbeats 1000000 in
theorem pairs10_any (a1 a2 : Option Addr) (c1 c2 : Nat) (C : Cont) (w : World) (h1 : At w 2 pcel a1 c1 C) (h2 : At w 2 pcel a2 c2 C) (hC : C.length ≤ 100000) :
    Calls Try.prog 23 #[.slice a1 C.length c1, .slice a2 C.length c2] w fun e w' => e = .returned (.bool true) ∧ Below w.heap.size w w' := by
  have g1 := Lib.hid fun i x hx => pair_cells h1 (i := i) (x := x) hx
  have g2 := Lib.hid fun i x hx => pair_cells h2 (i := i) (x := x) hx
  clear h1 h2
  obtain ⟨n, hn⟩ : ∃ n, n = C.length := ⟨_, rfl⟩
  rw [← hn] at hC ⊢
  replace hn := Lib.hid hn
  go_enter Try.func23, Try.ntmps23
  go_wp2_with fail
  go_loopg [5] n (fun gk v wr => ∃ k : Nat, gk = n - k ∧ k ≤ n ∧ v = .int .i64 k ∧ Below w.heap.size w wr)
  case atStart => exact ⟨0, rfl, by omega, rfl, Below.refl _ _⟩
  case round =>
    obtain ⟨k, rfl, hk, rfl, hB⟩ := hrel
    by_cases hlt : k < n
    · obtain ⟨x, hx⟩ : ∃ x, C[k]? = some x := ⟨_, List.getElem?_eq_getElem (by have := hn.out; omega)⟩
      obtain ⟨b, o, rfl, hb1, hl1, hc1, k0, k1⟩ := g1.out k x hx
      obtain ⟨b', o', rfl, hb2, hl2, hc2, j0, j1⟩ := g2.out k x hx
      have x0 := keep hB k0
      have x1 := keep hB k1
      have y0 := keep hB j0
      have y1 := keep hB j1
      have hbw := block_lt_of_cell x0
      have hbw2 := block_lt_of_cell y0
      have hA2 : (k : Int) < (n : Int) := by omega
      have hA3 : (0 : Int) ≤ (k : Int) := by omega
      have hw1 : IntKind.i64.wrap ((k : Int) + 1) = (k : Int) + 1 := IntWalk.i64_in _ (by omega)
      replace hB := Lib.hid hB
      obtain ⟨p, q⟩ := x
      simp only at x0 x1 y0 y1
      clear k0 k1 j0 j1 hx
      go_upto_region 6 with fail
      go_cut [25] (fun v wx => v = .bool false ∧ Below wr.heap.size wr wx)
      case first =>
        go_quiet (fail)
        go_wp2_with fail
        go_meet
        exact ⟨by simp, below_drewN (Below.refl _ _) _⟩
      case rest =>
        obtain ⟨rfl, hb7⟩ := hcut
        have hB7 := Lib.hid (hB.out.trans (hb7.mono hB.out.size))
        clear hb7 x0 x1 y0 y1
        go_wp2_with fail
        go_roundg (n - (k + 1))
        case rel => exact ⟨k + 1, rfl, by omega, by go_num, hB7.out⟩
        case measure => omega
    · obtain rfl : k = n := by omega
      replace hB := Lib.hid hB
      go_wp2_with fail
      go_ret
      exact ⟨rfl, hB.out⟩
end Go.Proofs.Ytlhobbfncjjeaaa
