/- The walk of the helper 'stands' of the law ArenaHandles. -/
import Derived.Test.YtoknkedmpdcinaaArenaTwo
import Derived.Test.YtoknkedmpdcinaaArenaGreat
namespace Go.Proofs.Ytoknkedmpdcinaa
open Go.RowKit
/-- A handle that was told, of which arena it is, what was put there. -/
structure HEnt where
  slot : Nat
  gen : Int
  inn : Nat
  s : ByteArray
def HEnt.cells (x : HEnt) : List Value := [Value.int .i64 x.slot, Value.int .u64 x.gen, Value.int .i64 x.inn, Value.string x.s]
def kcells (l : List HEnt) : List Value := l.flatMap HEnt.cells
theorem kcells_length (l : List HEnt) : (kcells l).length = l.length * 4 := by
  unfold kcells
  induction l with
  | nil => rfl
  | cons a l ih => simp [HEnt.cells] at ih ⊢; omega
theorem kcells_append (l r : List HEnt) : kcells (l ++ r) = kcells l ++ kcells r := by simp [kcells]
theorem kcells_snoc (l : List HEnt) (x : HEnt) : kcells (l ++ [x]) = kcells l ++ x.cells := by simp [kcells]
theorem kcells_get : ∀ (l : List HEnt) (k : Nat) (x : HEnt), l[k]? = some x → (kcells l)[k * 4]? = some (Value.int .i64 x.slot) ∧ (kcells l)[k * 4 + 1]? = some (Value.int .u64 x.gen) ∧ (kcells l)[k * 4 + 2]? = some (Value.int .i64 x.inn) ∧ (kcells l)[k * 4 + 3]? = some (Value.string x.s)
  | [], k, x, hk => by simp at hk
  | a :: l, 0, x, hk => by simp at hk; subst hk; simp [kcells, HEnt.cells]
  | a :: l, k + 1, x, hk => by
    have := kcells_get l k x (by simpa using hk)
    rw [show (k + 1) * 4 = k * 4 + 1 + 1 + 1 + 1 by omega]
    simp only [kcells, List.flatMap_cons, HEnt.cells] at this ⊢
    simpa using this
def HOwn (w : World) (base : Nat) (v : Value) (l : List HEnt) : Prop := w.ownsRow base 46 4 v l.length (kcells l)
theorem HOwn.cases {w : World} {base : Nat} {v : Value} {l : List HEnt} (h : HOwn w base v l) :
    (v = .slice none 0 0 ∧ l = []) ∨ ∃ b cap, v = .slice (some ⟨b, 0, none⟩) l.length cap ∧ base ≤ b ∧ b < w.heap.size ∧ v.ownBlock = some b ∧ l.length ≤ cap ∧
      ∀ k x, l[k]? = some x → w.cell? ⟨b, k * 4, none⟩ = some (.int .i64 x.slot) ∧ w.cell? ⟨b, k * 4 + 1, none⟩ = some (.int .u64 x.gen) ∧ w.cell? ⟨b, k * 4 + 2, none⟩ = some (.int .i64 x.inn) ∧ w.cell? ⟨b, k * 4 + 3, none⟩ = some (.string x.s) := by
  obtain ⟨h1, h2⟩ := h
  rcases h2 with ⟨h2, h3⟩ | ⟨b, cap, cur, h2, h3, h4, h5, h6, h7, h8⟩
  · exact .inl ⟨h2, List.length_eq_zero_iff.1 h3⟩
  · refine .inr ⟨b, cap, h2, h3, heap_lt h4, by rw [h2]; rfl, h5, fun k x hk => ?_⟩
    have hlt : k < l.length := by
      rcases Nat.lt_or_ge k l.length with h | h
      · exact h
      · rw [List.getElem?_eq_none h] at hk; cases hk
    have hx := kcells_get l k x hk
    rw [← h8] at hx
    rw [List.getElem?_take_of_lt (by omega), List.getElem?_take_of_lt (by omega), List.getElem?_take_of_lt (by omega), List.getElem?_take_of_lt (by omega)] at hx
    rw [cell_of_heap h4, cell_of_heap h4, cell_of_heap h4, cell_of_heap h4]
    simpa using hx
theorem HOwn.upd {S : List Nat} {w w' : World} {base : Nat} {v : Value} {l : List HEnt} (h : HOwn w base v l) (hu : Upd S w w') (hS : ∀ k, k ∈ S → v.ownBlock ≠ some k) : HOwn w' base v l := by
  refine ⟨h.1, ?_⟩
  rcases h.2 with h2 | ⟨b, cap, cur, h2, h3, h4, h5⟩
  · exact .inl h2
  · exact .inr ⟨b, cap, cur, h2, h3, hu.heap h4 (fun hk => hS b hk (by rw [h2]; rfl)), h5⟩
theorem HOwn.below {w w' : World} {base : Nat} {v : Value} {l : List HEnt} (h : HOwn w base v l) (hb : Below w.heap.size w w') : HOwn w' base v l :=
  h.upd (Upd.of_below (S := []) hb) (by simp)
def Lives (L : List AEnt) (x : HEnt) : Prop := ∃ e, e ∈ L ∧ (x.slot : Int) = (e.slot : Int) ∧ e.gen = x.gen ∧ e.xs = [.string x.s]
def Dead (L : List AEnt) (x : HEnt) : Prop := ∀ e, e ∈ L → ¬ ((x.slot : Int) = (e.slot : Int) ∧ e.gen = x.gen)
structure Std (LA LC : List AEnt) (on gone : List HEnt) : Prop where
  inon : ∀ x, x ∈ on → (x.inn = 0 ∧ Lives LA x ∧ Dead LC x) ∨ (x.inn = 1 ∧ Dead LA x ∧ Lives LC x)
  nd : (on.map HEnt.slot).Nodup
  ingone : ∀ x, x ∈ gone → Dead LA x ∧ Dead LC x
/-- What Get of a handle that lives in the arena tells. -/
theorem gGet_lives (A : AR) (R : List Nat) (p : Option Addr) (x : HEnt) (w : World) (h : AStr.AG w R p A) (hx : Lives A.L x) :
    Calls Try.prog 18 #[.pointer (some ⟨A.a, 0, none⟩), .agg #[.int .i64 x.slot, .int .u64 x.gen]] w fun e w' => ∃ b, b < w.heap.size ∧ w.cell? ⟨b, 1, none⟩ = some (.string x.s) ∧ e = .returned (.tuple #[.pointer (some ⟨b, 1, none⟩), .bool true]) ∧ Below w.heap.size w w' := by
  obtain ⟨e0, he, h1, h2, h3⟩ := hx
  have hb := (h.2.2.2.2.2 e0 he).2
  refine (AStr.gGet_some A R p x.slot x.gen e0 w h he h1 h2).mono fun e w' ⟨q1, q2⟩ => ⟨e0.blk, heap_lt hb, ?_, q1, q2⟩
  rw [cell_of_heap hb, h3]
  rfl
def HAt (w : World) (b k : Nat) (x : HEnt) : Prop := w.cell? ⟨b, k * 4, none⟩ = some (.int .i64 x.slot) ∧ w.cell? ⟨b, k * 4 + 1, none⟩ = some (.int .u64 x.gen) ∧ w.cell? ⟨b, k * 4 + 2, none⟩ = some (.int .i64 x.inn) ∧ w.cell? ⟨b, k * 4 + 3, none⟩ = some (.string x.s)
theorem HOwn.rows {w : World} {base : Nat} {v : Value} {l : List HEnt} (h : HOwn w base v l) :
    ∃ a cap, v = .slice a l.length cap ∧ ∀ k x, l[k]? = some x → ∃ b, a = some ⟨b, 0, none⟩ ∧ b < w.heap.size ∧ HAt w b k x := by
  rcases h.cases with ⟨rfl, rfl⟩ | ⟨b, cap, rfl, _, hb, _, _, hc⟩
  · exact ⟨none, 0, rfl, by simp⟩
  · exact ⟨some ⟨b, 0, none⟩, cap, rfl, fun k x hk => ⟨b, rfl, hb, hc k x hk⟩⟩
theorem HAt.stay {w w' : World} {b k : Nat} {x : HEnt} (h : HAt w b k x) (hb : Below w.heap.size w w') : HAt w' b k x :=
  ⟨keep hb h.1, keep hb h.2.1, keep hb h.2.2.1, keep hb h.2.2.2⟩
set_option maxRecDepth 100000 in
set_option maxHeartbeats 4000000 in
theorem stands_any (A C : AR) (R : List Nat) (p : Option Addr) (base : Nat) (vo vg : Value) (on gone : List HEnt) (w : World) (hA : AStr.AG w R p A) (hC : AStr.AG w R p C) (ho : HOwn w base vo on) (hg : HOwn w base vg gone) (hs : Std A.L C.L on gone)
    (h1 : on.length ≤ 4096) (h2 : gone.length ≤ 4096) :
    Calls Try.prog 15 #[.pointer (some ⟨A.a, 0, none⟩), .pointer (some ⟨C.a, 0, none⟩), vo, vg] w fun e w' => e = .returned (.bool true) ∧ Below w.heap.size w w' := by
  obtain ⟨ao, co, rfl, hro⟩ := ho.rows
  obtain ⟨ag, cg, rfl, hrg⟩ := hg.rows
  replace hro := Lib.hid hro
  replace hrg := Lib.hid hrg
  replace hA := Lib.hid hA
  replace hC := Lib.hid hC
  replace hs := Lib.hid hs
  clear ho hg
  go_enter Try.func15, Try.ntmps15
  go_wp2_with fail
  go_loopw [9] (fun i wr => ∃ k : Nat, k ≤ on.length ∧ i = .int .i64 k ∧ Below w.heap.size w wr) (fun i _ => on.length - (intOf i).toNat)
  case atStart => exact ⟨0, Nat.zero_le _, rfl, Below.refl _ _⟩
  case round =>
    obtain ⟨k, hk, rfl, hB⟩ := hrel
    replace hB := Lib.hid hB
    by_cases hlt : k < on.length
    · have hx : on[k]? = some on[k] := List.getElem?_eq_getElem hlt
      generalize hxe : on[k] = x at hx
      clear hxe
      obtain ⟨b, rfl, hbw, hat⟩ := hro.out k x hx
      have hin : x ∈ on := List.mem_of_getElem? hx
      have hat' := hat.stay hB.out
      obtain ⟨c0, c1, c2, c3⟩ := hat'
      have hsz := hB.out.size
      have hro' := hro
      clear hro
      rcases hs.out.inon x hin with ⟨hi0, hl, hd⟩ | ⟨hi1, hd, hl⟩
      · have c2' : wr.cell? ⟨b, k * 4 + 2, none⟩ = some (.int .i64 0) := by rw [hi0] at c2; exact c2
        have hget := Lib.hid (gGet_lives A R p x wr (ArenaG.below hA.out hB.out) hl)
        clear c2
        go_wp2_with fail
        refine hget.out.mono ?_
        rintro e w1 ⟨eb, heb, hes, rfl, hb1⟩
        clear hget
        replace c0 := keep hb1 c0
        replace c1 := keep hb1 c1
        replace c2' := keep hb1 c2'
        replace c3 := keep hb1 c3
        replace hes := keep hb1 hes
        have hB1 := Lib.hid (hB.out.trans (hb1.mono hsz))
        have hsz1 := hb1.size
        clear hb1 hB
        have hget := Lib.hid (AStr.gGet_none C R p x.slot x.gen w1 (ArenaG.below hC.out hB1.out) hd)
        go_wp2_with fail
        refine hget.out.mono ?_
        rintro e w2 ⟨rfl, hb2⟩
        clear hget
        replace c0 := keep hb2 c0
        replace c1 := keep hb2 c1
        replace c2' := keep hb2 c2'
        replace c3 := keep hb2 c3
        replace hes := keep hb2 hes
        have hB2 := Lib.hid (hB1.out.trans (hb2.mono (by omega)))
        clear hb2 hB1
        go_wp2_with fail
        go_quiet (fail)
        go_wp2_with fail
        clear c0 c1 c2' c3 hes
        go_loopw [14] (fun i wi => ∃ j : Nat, j ≤ k ∧ i = .int .i64 j ∧ Below w.heap.size w wi) (fun i _ => k - (intOf i).toNat)
        case atStart => exact ⟨0, Nat.zero_le _, rfl, below_drewN hB2.out _⟩
        case round =>
          obtain ⟨j, hj, rfl, hBi⟩ := hrel
          replace hBi := Lib.hid hBi
          clear hB2
          by_cases hjk : j < k
          · obtain ⟨y, hy⟩ : ∃ y, on[j]? = some y := ⟨on[j], List.getElem?_eq_getElem (by omega)⟩
            have hne : y.slot ≠ x.slot := by
              intro he
              have hnd := hs.out.nd
              have := (List.getElem?_inj (i := j) (j := k) (by simp; omega) hnd).1 (by rw [List.getElem?_map, List.getElem?_map, hy, hx]; simp [he])
              omega
            obtain ⟨b', hb', _, hat2⟩ := hro'.out j y hy
            obtain rfl : b = b' := by simpa using hb'
            obtain ⟨c0, c1, c2, c3⟩ := hat.stay hBi.out
            obtain ⟨d0, d1, d2, d3⟩ := hat2.stay hBi.out
            have hq2 : ((y.slot : Int) == (x.slot : Int)) = false := beq_eq_false_iff_ne.2 (by omega)
            have hszi := hBi.out.size
            clear hat2 hb' c2 c3 d2 d3
            go_wp2_with fail
            go_quiet (fail)
            go_wp2_with fail
            go_roundw
            case rel => exact ⟨j + 1, by omega, by go_num, below_drewN hBi.out _⟩
            case measure => simp [intOf]; omega
          · have hjk2 : (j : Int) = k := by omega
            go_wp2_with fail
            go_roundw
            case rel => exact ⟨k + 1, by omega, by go_num, hBi.out⟩
            case measure => simp [intOf]; omega
      · have c2' : wr.cell? ⟨b, k * 4 + 2, none⟩ = some (.int .i64 1) := by rw [hi1] at c2; exact c2
        have hget := Lib.hid (AStr.gGet_none A R p x.slot x.gen wr (ArenaG.below hA.out hB.out) hd)
        clear c2
        go_wp2_with fail
        refine hget.out.mono ?_
        rintro e w1 ⟨rfl, hb1⟩
        clear hget
        replace c0 := keep hb1 c0
        replace c1 := keep hb1 c1
        replace c2' := keep hb1 c2'
        replace c3 := keep hb1 c3
        have hB1 := Lib.hid (hB.out.trans (hb1.mono hsz))
        have hsz1 := hb1.size
        clear hb1 hB
        have hget := Lib.hid (gGet_lives C R p x w1 (ArenaG.below hC.out hB1.out) hl)
        go_wp2_with fail
        refine hget.out.mono ?_
        rintro e w2 ⟨eb, heb, hes, rfl, hb2⟩
        clear hget
        replace c0 := keep hb2 c0
        replace c1 := keep hb2 c1
        replace c2' := keep hb2 c2'
        replace c3 := keep hb2 c3
        replace hes := keep hb2 hes
        have hB2 := Lib.hid (hB1.out.trans (hb2.mono (by omega)))
        clear hb2 hB1
        go_wp2_with fail
        go_quiet (fail)
        go_wp2_with fail
        clear c0 c1 c2' c3 hes
        go_loopw [14] (fun i wi => ∃ j : Nat, j ≤ k ∧ i = .int .i64 j ∧ Below w.heap.size w wi) (fun i _ => k - (intOf i).toNat)
        case atStart => exact ⟨0, Nat.zero_le _, rfl, below_drewN hB2.out _⟩
        case round =>
          obtain ⟨j, hj, rfl, hBi⟩ := hrel
          replace hBi := Lib.hid hBi
          clear hB2
          by_cases hjk : j < k
          · obtain ⟨y, hy⟩ : ∃ y, on[j]? = some y := ⟨on[j], List.getElem?_eq_getElem (by omega)⟩
            have hne : y.slot ≠ x.slot := by
              intro he
              have hnd := hs.out.nd
              have := (List.getElem?_inj (i := j) (j := k) (by simp; omega) hnd).1 (by rw [List.getElem?_map, List.getElem?_map, hy, hx]; simp [he])
              omega
            obtain ⟨b', hb', _, hat2⟩ := hro'.out j y hy
            obtain rfl : b = b' := by simpa using hb'
            obtain ⟨c0, c1, c2, c3⟩ := hat.stay hBi.out
            obtain ⟨d0, d1, d2, d3⟩ := hat2.stay hBi.out
            have hq2 : ((y.slot : Int) == (x.slot : Int)) = false := beq_eq_false_iff_ne.2 (by omega)
            have hszi := hBi.out.size
            clear hat2 hb' c2 c3 d2 d3
            go_wp2_with fail
            go_quiet (fail)
            go_wp2_with fail
            go_roundw
            case rel => exact ⟨j + 1, by omega, by go_num, below_drewN hBi.out _⟩
            case measure => simp [intOf]; omega
          · have hjk2 : (j : Int) = k := by omega
            go_wp2_with fail
            go_roundw
            case rel => exact ⟨k + 1, by omega, by go_num, hBi.out⟩
            case measure => simp [intOf]; omega
    · obtain rfl : k = on.length := by omega
      clear hro
      go_wp2_with fail
      go_loopw [15] (fun i wg => ∃ k : Nat, k ≤ gone.length ∧ i = .int .i64 k ∧ Below w.heap.size w wg) (fun i _ => gone.length - (intOf i).toNat)
      case atStart => exact ⟨0, Nat.zero_le _, rfl, hB.out⟩
      case round =>
        obtain ⟨m, hm, rfl, hB3⟩ := hrel
        replace hB3 := Lib.hid hB3
        clear hB
        by_cases hlt2 : m < gone.length
        · have hx : gone[m]? = some gone[m] := List.getElem?_eq_getElem hlt2
          generalize hxe : gone[m] = x at hx
          clear hxe
          obtain ⟨b, rfl, hbw, hat⟩ := hrg.out m x hx
          obtain ⟨hd1, hd2⟩ := hs.out.ingone x (List.mem_of_getElem? hx)
          obtain ⟨c0, c1, _, _⟩ := hat.stay hB3.out
          clear hrg
          have hget := Lib.hid (AStr.gGet_none A R p x.slot x.gen wr (ArenaG.below hA.out hB3.out) hd1)
          go_wp2_with fail
          refine hget.out.mono ?_
          rintro e w1 ⟨rfl, hb1⟩
          clear hget
          replace c0 := keep hb1 c0
          replace c1 := keep hb1 c1
          have hB4 := Lib.hid (hB3.out.trans (hb1.mono hB3.out.size))
          clear hb1
          have hget := Lib.hid (AStr.gGet_none C R p x.slot x.gen w1 (ArenaG.below hC.out hB4.out) hd2)
          go_wp2_with fail
          refine hget.out.mono ?_
          rintro e w2 ⟨rfl, hb2⟩
          clear hget
          have hB5 := Lib.hid (hB4.out.trans (hb2.mono hB4.out.size))
          clear hb2
          go_wp2_with fail
          go_roundw
          case rel => exact ⟨m + 1, by omega, by go_num, hB5.out⟩
          case measure => simp [intOf]; omega
        · obtain rfl : m = gone.length := by omega
          go_wp2_with fail
          go_ret
          exact ⟨rfl, hB3.out⟩
end Go.Proofs.Ytoknkedmpdcinaa
