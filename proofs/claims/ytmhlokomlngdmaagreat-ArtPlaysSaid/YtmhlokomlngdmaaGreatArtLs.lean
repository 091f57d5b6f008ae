/- The walk of the helper 'wakes' of the trie's laws: it returns true. What the trie's laws share: acts that came in, Great, plays, room, value. The document's order of texts. -/
import Derived.Test.YtmhlokomlngdmaaGreatArtTz
import Derived.Laws.IdiomStrings
import Derived.Test.YtmhlokomlngdmaaGreatFlat
import Derived.Test.YtmhlokomlngdmaaGreatLib
import Derived.Test.YtmhlokomlngdmaaGreatRow
import Derived.WalkKit
import Derived.BigQuiet
import Derived.BigRegion
import Derived.LoopTactic
import Derived.Deep.LoopGhost
import Derived.Laws.Strings
import Derived.Test.YtmhlokomlngdmaaGreatChecked
namespace Go.Proofs.YtmhlokomlngdmaaGreat
open Go.RowKit
def kAb : Str := ⟨#[97, 98]⟩
def kAc : Str := ⟨#[97, 99]⟩
def kXyz : Str := ⟨#[120, 121, 122]⟩
def kXyw : Str := ⟨#[120, 121, 119]⟩
def v1 : Str := ⟨#[49]⟩
def v2 : Str := ⟨#[50]⟩
def v4 : Str := ⟨#[52]⟩
def v5 : Str := ⟨#[53]⟩
def cA : Cont := [(kAb, v1)]
def cB : Cont := [(kAb, v1), (kAc, v2)]
def cX : Cont := [(kAb, v1), (kAc, v2), (kXyz, v4)]
theorem wk1 : putC [] 6 kAb v1 = cA := by decide
theorem wk2 : putC cA 6 kAc v2 = cB := by decide
theorem wk2v : putV cA 6 kAc v2 = .tuple #[.string ⟨#[]⟩, .bool false, .int .i64 0] := by unfold putV; rw [if_pos (by decide)]; rfl
theorem wk3 : putC cB 6 kXyz v4 = cX := by decide
theorem wk4 : putC cX 6 kXyw v5 = cX := by decide
theorem wk4v : putV cX 6 kXyw v5 = .tuple #[.string ⟨#[]⟩, .bool false, .int .i64 5] := by unfold putV; rw [if_neg (by decide)]
theorem wkS : nodesN cB = 4 := by decide
theorem wkG : cget cX kAc = some v2 := by decide
theorem wkN : cnext cX kAc true = some (kXyz, v4) := by decide
set_option maxRecDepth 100000 in
set_option maxHeartbeats 2000000 in
theorem awake12_any (w : World) : Calls Tryz.prog 6 #[] w fun e w' => e = .returned (.bool true) ∧ Below w.heap.size w w' := by
  have hva : ByteArray.toList v2 = [50] := by rw [ByteArray.toList_eq]; rfl
  have hvb : ByteArray.toList kXyz = [120, 121, 122] := by rw [ByteArray.toList_eq]; rfl
  go_enter Tryz.func6, Tryz.ntmps6
  go_wp2_with fail
  refine (show Calls Tryz.prog 7 #[.int .i64 6] w _ from arNewPool_some 6 w (by decide) (by decide)).mono ?_
  rintro e w1 ⟨p, g, f, rfl, hB1, hp1, hg1, hf1, hP1⟩
  have hNw := Lib.hid (ATx.new (w0 := w) hB1 hP1 ⟨hp1, hg1, hf1⟩ (by decide))
  clear hP1 hB1
  go_wp2_with fail
  refine hNw.out.mono ?_
  clear hNw
  rintro e w2 ⟨t, rfl, hT2⟩
  have h2 := hT2.put kAb v1 (by decide)
  rw [wk1] at h2
  replace hT2 := Lib.hid hT2
  go_wp2_with fail
  refine h2.mono ?_
  clear h2
  rintro e w3 ⟨rfl, hT3⟩
  have h3 := hT3.put kAc v2 (by decide)
  rw [wk2, wk2v] at h3
  replace hT3 := Lib.hid hT3
  go_wp2_with fail
  refine h3.mono ?_
  clear h3
  rintro e w4 ⟨rfl, hT4⟩
  have h4 := hT4.slots
  rw [wkS] at h4
  replace hT4 := Lib.hid hT4
  go_wp2_with fail
  refine h4.mono ?_
  clear h4
  rintro e w5 ⟨rfl, hb5⟩
  have hT5 := hT4.out.below hb5
  have h5 := hT5.put kXyz v4 (by decide)
  rw [wk3] at h5
  replace hT5 := Lib.hid hT5
  replace hb5 := Lib.hid hb5
  go_wp2_with fail
  refine h5.mono ?_
  clear h5
  rintro e w6 ⟨rfl, hT6⟩
  have h6 := hT6.put kXyw v5 (by decide)
  rw [wk4, wk4v] at h6
  replace hT6 := Lib.hid hT6
  go_wp2_with fail
  refine h6.mono ?_
  clear h6
  rintro e w7 ⟨rfl, hT7⟩
  have h7 := hT7.get kAc (by decide)
  rw [wkG] at h7
  replace hT7 := Lib.hid hT7
  go_wp2_with fail
  refine h7.mono ?_
  clear h7
  rintro e w8 ⟨rfl, hb8⟩
  have hT8 := hT7.out.below hb8
  have h8 := hT8.next kAc true
  rw [wkN] at h8
  rw [show fK (some (kXyz, v4)) = kXyz from rfl, show fX (some (kXyz, v4)) = v4 from rfl] at h8
  replace hT8 := Lib.hid hT8
  replace hb8 := Lib.hid hb8
  go_wp2_with fail
  refine h8.mono ?_
  clear h8
  rintro e w9 ⟨rfl, hb9⟩
  have hT9 := hT8.out.below hb9
  have h9 := hT9.check
  replace hT9 := Lib.hid hT9
  replace hb9 := Lib.hid hb9
  go_wp2_with fail
  refine h9.mono ?_
  clear h9
  rintro e w10 ⟨rfl, hb10⟩
  have hfin := Lib.hid (hT9.out.bel.trans (hb10.mono hT9.out.bel.size))
  replace hb10 := Lib.hid hb10
  go_wp2_with fail
  go_ret
  exact ⟨by simp, hfin.out⟩
end Go.Proofs.YtmhlokomlngdmaaGreat
namespace Go.Proofs.YtmhlokomlngdmaaGreat
open Go.RowKit
/-- An act: Do, Key, Value, After. -/
abbrev A12 := Nat × Str × Str × Bool
def ACell (w : World) (b o : Nat) (x : A12) : Prop := w.cell? ⟨b, o, none⟩ = some (.int .u8 (x.1 : Nat)) ∧ w.cell? ⟨b, o + 1, none⟩ = some (.string x.2.1) ∧ w.cell? ⟨b, o + 2, none⟩ = some (.string x.2.2.1) ∧ w.cell? ⟨b, o + 3, none⟩ = some (.bool x.2.2.2)
/-- A slice has these acts. -/
def Acts (w : World) (s : Option Addr) (L : List A12) : Prop := ∀ k x, L[k]? = some x → ∃ b off, s = some ⟨b, off, none⟩ ∧ b < w.heap.size ∧ ACell w b (off + k * 4) x
/-- No text of an act is longer than a text can be. -/
def Sizes (L : List A12) : Prop := ∀ x, x ∈ L → x.1 < 256 ∧ x.2.1.size ≤ maxLen ∧ x.2.2.1.size ≤ maxLen
theorem ACell.below {w w' : World} {b o : Nat} {x : A12} (h : ACell w b o x) (hb : Below w.heap.size w w') : ACell w' b o x := ⟨keep hb h.1, keep hb h.2.1, keep hb h.2.2.1, keep hb h.2.2.2⟩
theorem Acts.below {w w' : World} {s : Option Addr} {L : List A12} (h : Acts w s L) (hb : Below w.heap.size w w') : Acts w' s L := fun k x hx => by
  obtain ⟨b, off, h1, h2, h3⟩ := h k x hx
  exact ⟨b, off, h1, Nat.lt_of_lt_of_le h2 hb.size, h3.below hb⟩
abbrev act12K : List Kd := [.inl .u8, .inr false, .inr false, .inr true]
theorem acts_row {w : World} {s : Option Addr} {len : Nat} {rows : List (List Value)} (hr : IsFlat act12K w s len rows) :
    ∀ k, k < len → ∃ x : A12, ∃ b off, s = some ⟨b, off, none⟩ ∧ b < w.heap.size ∧ ACell w b (off + k * 4) x ∧ x.1 < 256 ∧ x.2.1.size ≤ maxLen ∧ x.2.2.1.size ≤ maxLen := by
  intro k hk
  rcases hr with ⟨h0, _⟩ | ⟨b, off, hs, _, _, hb, hc⟩
  · omega
  obtain ⟨h1, h2⟩ := hc k hk
  generalize rows.getD k [] = r at *
  obtain ⟨v0, v1, v2, v3, rfl, ⟨n0, rfl, q0⟩, ⟨x1, rfl, q1⟩, ⟨x2, rfl, q2⟩, ⟨b3, rfl⟩⟩ := h1.of4
  have g0 := h2 0 (by simp)
  have g1 := h2 1 (by simp)
  have g2 := h2 2 (by simp)
  have g3 := h2 3 (by simp)
  simp only [List.length_cons, List.length_nil, Nat.zero_add, Nat.reduceAdd, Nat.add_zero, ← Nat.add_assoc, List.getElem?_cons_zero, List.getElem?_cons_succ] at g0 g1 g2 g3
  have hn : 0 ≤ n0 ∧ n0 < 256 := by
    simp [Lit.wf] at q0
    have e1 : IntKind.u8.min = 0 := by decide
    have e2 : IntKind.u8.max = 255 := by decide
    omega
  obtain ⟨m, rfl⟩ : ∃ m : Nat, n0 = m := ⟨n0.toNat, by omega⟩
  exact ⟨(m, x1, x2, b3), b, off, hs, hb, ⟨g0, g1, g2, g3⟩, by show m < 256; omega, q1, q2⟩
theorem acts_of_flat {w : World} {s : Option Addr} {len : Nat} {rows : List (List Value)} (hr : IsFlat act12K w s len rows) : ∃ L : List A12, L.length = len ∧ Acts w s L ∧ Sizes L := by
  have key : ∀ n, n ≤ len → ∃ L : List A12, L.length = n ∧ Acts w s L ∧ Sizes L := by
    intro n
    induction n with
    | zero => exact fun _ => ⟨[], rfl, fun k x hx => by simp at hx, fun x hx => by cases hx⟩
    | succ n ih =>
      intro hn
      obtain ⟨L, hL, hA, hS⟩ := ih (by omega)
      obtain ⟨y, b, off, y1, y2, y3, y4⟩ := acts_row hr n (by omega)
      refine ⟨L ++ [y], by simp [hL], fun k x hx => ?_, fun x hx => ?_⟩
      rotate_left 1
      · rcases List.mem_append.1 hx with h1 | h1
        · exact hS x h1
        · simp at h1
          subst h1
          exact y4
      rcases Nat.lt_or_ge k L.length with h1 | h1
      · rw [List.getElem?_append_left h1] at hx
        exact hA k x hx
      · rw [List.getElem?_append_right h1] at hx
        have h2 := (List.getElem?_eq_some_iff.1 hx).1
        simp at h2
        have h3 : k = n := by omega
        subst h3
        rw [hL] at hx
        simp at hx
        rw [← hx]
        exact ⟨b, off, y1, y2, y3⟩
  exact key len (Nat.le_refl _)
theorem take_next {α : Type} {L : List α} {k : Nat} {x : α} (h : L[k]? = some x) : L.take (k + 1) = L.take k ++ [x] := by
  obtain ⟨h1, h2⟩ := List.getElem?_eq_some_iff.1 h
  rw [List.take_succ_eq_append_getElem h1, h2]
/-- No text is longer than 60. -/
def Small (L : List A12) : Prop := ∀ x, x ∈ L → x.2.1.size ≤ 60 ∧ x.2.2.1.size ≤ 60
/-- Acts of putting and deleting, as plays does them in a pool of c0 slots. -/
def step12 (c0 : Nat) (C : Cont) (x : A12) : Cont := if x.1 % 2 = 0 then putC C c0 x.2.1 x.2.2.1 else cdel C x.2.1
def play12 (c0 : Nat) (C : Cont) (L : List A12) : Cont := L.foldl (step12 c0) C
theorem play12_snoc (c0 : Nat) (C : Cont) (L : List A12) (x : A12) : play12 c0 C (L ++ [x]) = step12 c0 (play12 c0 C L) x := by simp [play12]
set_option maxHeartbeats 1000000 in
theorem great12_any (s : Option Addr) (cap : Nat) (L : List A12) (w : World) (hr : Acts w s L) (hsz : Sizes L) (hlen : L.length ≤ maxLen) :
    Calls Tryz.prog 5 #[.slice s L.length cap] w fun e w' => (e = .returned (.bool true) ∨ (e = .returned (.bool false) ∧ L.length ≤ 150 ∧ Small L)) ∧ Below w.heap.size w w' := by
  have hro := Lib.hid hr
  have hszs := Lib.hid hsz
  clear hr hsz
  unfold maxLen at hlen
  obtain ⟨len, hle⟩ : ∃ len, len = L.length := ⟨_, rfl⟩
  rw [← hle] at hlen ⊢
  go_enter Tryz.func5, Tryz.ntmps5
  by_cases h150 : 150 < len
  · have hd : (150 : Int) < (len : Int) := by omega
    replace hle := Lib.hid hle
    go_wp2_with fail
    go_ret
    exact ⟨.inl rfl, Below.refl _ _⟩
  have hd : ¬ (150 : Int) < (len : Int) := by omega
  replace hle := Lib.hid hle
  go_wp2_with fail
  go_loopg [3] len (fun gk i wr => ∃ (k : Nat), gk = len - k ∧ k ≤ len ∧ i = .int .i64 k ∧ (∀ x, x ∈ L.take k → x.2.1.size ≤ 60 ∧ x.2.2.1.size ≤ 60) ∧ Below w.heap.size w wr)
  case atStart => exact ⟨0, rfl, Nat.zero_le _, rfl, by simp, Below.refl _ _⟩
  case round =>
    obtain ⟨k, rfl, hk, rfl, hsm, hB⟩ := hrel
    replace hB := Lib.hid hB
    replace hsm := Lib.hid hsm
    by_cases hlt : k < len
    · obtain ⟨x, hx⟩ : ∃ x, L[k]? = some x := ⟨_, List.getElem?_eq_getElem (by have := hle.out; omega)⟩
      obtain ⟨b, off, rfl, hbw, hact⟩ := hro.out k x hx
      obtain ⟨_, hx1, hx2⟩ := hszs.out x (List.mem_of_getElem? hx)
      have g1 := keep hB.out hact.2.1
      have g2 := keep hB.out hact.2.2.1
      have hbw2 := block_lt_of_cell g1
      unfold maxLen at hx1 hx2
      have htk := Lib.hid (take_next hx)
      obtain ⟨dd, x1, x2, aft⟩ := x
      simp only at g1 g2 hx1 hx2
      have hA2 : (k : Int) < (len : Int) := by omega
      have hA3 : (0 : Int) ≤ (k : Int) := by omega
      have hw1 : IntKind.i64.wrap ((k : Int) + 1) = (k : Int) + 1 := IntWalk.i64_in _ (by omega)
      clear hact hx
      by_cases e1 : 60 < x1.size
      · have ed1 : (60 : Int) < (x1.size : Int) := by omega
        go_wp2_with fail
        go_ret
        exact ⟨.inl rfl, hB.out⟩
      · have ed1 : ¬ (60 : Int) < (x1.size : Int) := by omega
        by_cases e2 : 60 < x2.size
        · have ed2 : (60 : Int) < (x2.size : Int) := by omega
          go_wp2_with fail
          go_ret
          exact ⟨.inl rfl, hB.out⟩
        · have ed2 : ¬ (60 : Int) < (x2.size : Int) := by omega
          go_wp2_with fail
          go_roundg (len - (k + 1))
          case rel =>
            refine ⟨k + 1, rfl, by omega, by go_num, ?_, hB.out⟩
            intro z hz
            rw [htk.out] at hz
            rcases List.mem_append.1 hz with h1 | h1
            · exact hsm.out z h1
            · rw [List.mem_singleton.1 h1]
              exact ⟨by show x1.size ≤ 60; omega, by show x2.size ≤ 60; omega⟩
          case measure => omega
    · obtain rfl : k = len := by omega
      have hLt : L.take k = L := List.take_of_length_le (by have := hle.out; omega)
      have hsm' : Small L := by rw [← hLt]; exact fun x hx => hsm.out x (by rw [hLt] at hx ⊢; exact hx)
      replace hsm' := Lib.hid hsm'
      go_wp2_with fail
      go_ret
      exact ⟨.inr ⟨rfl, by omega, hsm'.out⟩, hB.out⟩
def RoomEnd (w : World) (e : Ending) (w' : World) : Prop := ∃ p t, e = .returned (.tuple #[.pointer (some ⟨t, 0, none⟩), .pointer (some ⟨p, 0, none⟩), .bool true]) ∧ ATx w w' p t 4096 []
theorem room12_any (w : World) : Calls Tryz.prog 16 #[] w (RoomEnd w) := by
  go_enter Tryz.func16, Tryz.ntmps16
  go_wp2_with fail
  refine (show Calls Tryz.prog 7 #[.int .i64 4096] w _ from arNewPool_some 4096 w (by omega) (by omega)).mono ?_
  rintro e w1 ⟨p, g, f, rfl, hB1, hp1, hg1, hf1, hP1⟩
  have hNw := Lib.hid (ATx.new (w0 := w) hB1 hP1 ⟨hp1, hg1, hf1⟩ (by omega))
  clear hP1 hB1
  go_wp2_with fail
  refine hNw.out.mono ?_
  clear hNw
  rintro e w2 ⟨t, rfl, hT⟩
  replace hT := Lib.hid hT
  go_wp2_with fail
  go_ret3
  exact ⟨p, t, rfl, hT.out⟩
theorem even_facts (m : Nat) (h : 2 * m < 256) : ((2 * m : Nat) : Int).tmod 2 = 0 ∧ IntKind.u8.wrap (0 : Int) = 0 := ⟨by rw [Int.tmod_eq_emod_of_nonneg (by omega)]; omega, by decide⟩
theorem odd_facts (m : Nat) (h : 2 * m + 1 < 256) : ((2 * m + 1 : Nat) : Int).tmod 2 = 1 ∧ IntKind.u8.wrap (1 : Int) = 1 := ⟨by rw [Int.tmod_eq_emod_of_nonneg (by omega)]; omega, by decide⟩
set_option maxRecDepth 100000 in
set_option maxHeartbeats 2000000 in
theorem plays12_any {w0 w : World} {p t c0 : Nat} {C : Cont} (h : ATx w0 w p t c0 C) (s : Option Addr) (cap : Nat) (L : List A12) (hr : Acts w0 s L) (hsz : Sizes L) (hsm : Small L) (hlen : L.length ≤ 150) :
    Calls Tryz.prog 17 #[.pointer (some ⟨t, 0, none⟩), .slice s L.length cap] w fun e w' => e = .returned (.tuple #[]) ∧ ATx w0 w' p t c0 (play12 c0 C L) := by
  have hro := Lib.hid hr
  have hszs := Lib.hid hsz
  have hsms := Lib.hid hsm
  clear hr hsz hsm
  obtain ⟨len, hle⟩ : ∃ len, len = L.length := ⟨_, rfl⟩
  rw [← hle] at hlen ⊢
  replace hle := Lib.hid hle
  replace h := Lib.hid h
  go_enter Tryz.func17, Tryz.ntmps17
  go_wp2_with fail
  go_loopg [4] len (fun gk i wr => ∃ (k : Nat), gk = len - k ∧ k ≤ len ∧ i = .int .i64 k ∧ ATx w0 wr p t c0 (play12 c0 C (L.take k)))
  case atStart => exact ⟨0, rfl, Nat.zero_le _, rfl, h.out⟩
  case round =>
    clear h
    obtain ⟨k, rfl, hk, rfl, hT⟩ := hrel
    by_cases hlt : k < len
    · obtain ⟨x, hx⟩ : ∃ x, L[k]? = some x := ⟨_, List.getElem?_eq_getElem (by have := hle.out; omega)⟩
      obtain ⟨b, off, rfl, hbw, hact⟩ := hro.out k x hx
      obtain ⟨hx0, hx1, hx2⟩ := hszs.out x (List.mem_of_getElem? hx)
      obtain ⟨hx3, hx4⟩ := hsms.out x (List.mem_of_getElem? hx)
      obtain ⟨g0, g1, g2, g3⟩ := hact.below hT.bel
      have hbw2 := block_lt_of_cell g0
      have o1 := Lib.hid hact.2.1
      have o2 := Lib.hid hact.2.2.1
      have hsn : Hid (play12 c0 C (L.take (k + 1)) = step12 c0 (play12 c0 C (L.take k)) x) := Lib.hid (by rw [take_next hx, play12_snoc])
      have hPu := Lib.hid fun W (hW : Below wr.heap.size wr W) => (hT.below hW).put x.2.1 x.2.2.1 (by omega)
      have hDe := Lib.hid fun W (hW : Below wr.heap.size wr W) => (hT.below hW).delete x.2.1 (by omega)
      obtain ⟨D, hD⟩ : ∃ D, D = play12 c0 C (L.take k) := ⟨_, rfl⟩
      rw [← hD] at hsn hPu hDe hT
      replace hT := Lib.hid hT
      obtain ⟨dd, x1, x2, aft⟩ := x
      simp only at g0 g1 g2 g3 hPu hDe hx0 o1 o2
      have hA2 : (k : Int) < (len : Int) := by omega
      have hA3 : (0 : Int) ≤ (k : Int) := by omega
      have hw1 : IntKind.i64.wrap ((k : Int) + 1) = (k : Int) + 1 := IntWalk.i64_in _ (by omega)
      clear hact hx hD hx1 hx2 hx3 hx4
      by_cases h0 : dd % 2 = 0
      · obtain ⟨m, rfl⟩ : ∃ m, dd = 2 * m := ⟨dd / 2, by omega⟩
        obtain ⟨f1, f2⟩ := even_facts m hx0
        have hst : Hid (step12 c0 D (2 * m, x1, x2, aft) = putC D c0 x1 x2) := Lib.hid (if_pos h0)
        replace h0 := Lib.hid h0
        go_upto_region 4 with fail
        go_region_held3 (fun W' => W'.cell? ⟨b, off + k * 4 + 1, none⟩ = some (.string x1) ∧ W'.cell? ⟨b, off + k * 4 + 2, none⟩ = some (.string x2)) (first | exact ⟨g1, g2⟩ | exact ⟨i1, i2⟩ | go_keep) (first
          | (go_at_call 18; refine (hPu.out _ (Below.refl _ _).drew).mono ?_; rintro z w5 ⟨rfl, hT5⟩; have i1 := keep hT5.bel o1.out; have i2 := keep hT5.bel o2.out; replace hT5 := Lib.hid hT5))
        all_goals
          go_wp2_with fail
          go_roundg (len - (k + 1))
          case rel => exact ⟨k + 1, rfl, by omega, by go_num, by rw [hsn.out, hst.out]; exact hT5.out⟩
          case measure => omega
      · obtain ⟨m, rfl⟩ : ∃ m, dd = 2 * m + 1 := ⟨dd / 2, by omega⟩
        obtain ⟨f1, f2⟩ := odd_facts m hx0
        have hst : Hid (step12 c0 D (2 * m + 1, x1, x2, aft) = cdel D x1) := Lib.hid (if_neg h0)
        replace h0 := Lib.hid h0
        go_wp2_with fail
        refine (hDe.out _ (Below.refl _ _)).mono ?_
        rintro z w5 ⟨rfl, hT5⟩
        replace hT5 := Lib.hid hT5
        go_wp2_with fail
        go_roundg (len - (k + 1))
        case rel => exact ⟨k + 1, rfl, by omega, by go_num, by rw [hsn.out, hst.out]; exact hT5.out⟩
        case measure => omega
    · obtain rfl : k = len := by omega
      have hLt : L.take k = L := List.take_of_length_le (by have := hle.out; omega)
      rw [hLt] at hT
      replace hT := Lib.hid hT
      go_wp2_with fail
      exact ⟨rfl, .tuple #[], by simp [results, Tryz.results17, go_sem], rfl, hT.out⟩
end Go.Proofs.YtmhlokomlngdmaaGreat
namespace Go.Proofs.YtmhlokomlngdmaaGreat
open Go.RowKit
theorem cmp_drop {A B : List UInt8} {i : Nat} (ha : i < A.length) (hb : i < B.length) : Lib.compareBytes (A.drop i) (B.drop i) = if A[i] < B[i] then -1 else if B[i] < A[i] then 1 else Lib.compareBytes (A.drop (i + 1)) (B.drop (i + 1)) := by
  rw [List.drop_eq_getElem_cons ha, List.drop_eq_getElem_cons hb]
  rfl
/-- A text's byte. -/
def byteAt (s : Str) (i : Nat) : UInt8 := s.data.toList.getD i 0
theorem byte_run {P : Program} (t : TypeId) (ht : P.underlying t = some .string) (s : Str) (i : Nat) (hi : i < s.size) (W : World) : (Instr.index t (.string s) (.int .i64 (i : Int))).run P W = .ok (.int .u8 ((byteAt s i).toNat : Int)) W := by
  rw [run_index_string (h := ht), dif_pos ⟨by omega, by omega⟩]
  congr 3
  unfold byteAt
  rw [List.getD_eq_getElem?_getD, List.getElem?_eq_getElem (by simpa using hi)]
  simp [ByteArray.getElem_eq_getElem_data]
set_option maxHeartbeats 1000000 in
theorem less_any (a b : Str) (hs : a.size ≤ maxLen ∨ b.size ≤ maxLen) (w : World) : Calls Tryz.prog 23 #[.string a, .string b] w fun e w' => e = .returned (.bool (slt a b)) ∧ Below w.heap.size w w' := by
  unfold maxLen at hs
  have hix : ∀ (s : Str) (i : Nat), i < s.size → ∀ W, (Instr.index 9 (.string s) (.int .i64 (i : Int))).run Tryz.prog W = .ok (.int .u8 ((byteAt s i).toNat : Int)) W := fun s i hi W => byte_run 9 Tryz.underlying9 s i hi W
  have hixh := Lib.hid hix
  clear hix
  obtain ⟨n, hn⟩ : ∃ n, n = min a.size b.size := ⟨_, rfl⟩
  replace hn := Lib.hid hn
  go_enter Tryz.func23, Tryz.ntmps23
  go_wp2_with fail
  go_loopg [5] (n + 1) (fun gk v wr => ∃ i : Nat, gk = n + 1 - i ∧ i ≤ n ∧ v = .int .i64 i ∧ Lib.compareBytes a.data.toList b.data.toList = Lib.compareBytes (a.data.toList.drop i) (b.data.toList.drop i) ∧ Below w.heap.size w wr)
  case atStart => exact ⟨0, rfl, by omega, rfl, by simp, Below.refl _ _⟩
  case round =>
    obtain ⟨i, rfl, hi, rfl, hc, hB⟩ := hrel
    have hla : a.data.toList.length = a.size := rfl
    have hlb : b.data.toList.length = b.size := rfl
    by_cases hia : i < a.size
    · by_cases hib : i < b.size
      · have hw1 : IntKind.i64.wrap ((i : Int) + 1) = (i : Int) + 1 := IntWalk.i64_in _ (by omega)
        rw [cmp_drop (by omega) (by omega)] at hc
        have e1 : byteAt a i = a.data.toList[i]'(by omega) := by unfold byteAt; rw [List.getD_eq_getElem?_getD, List.getElem?_eq_getElem (by omega)]; rfl
        have e2 : byteAt b i = b.data.toList[i]'(by omega) := by unfold byteAt; rw [List.getD_eq_getElem?_getD, List.getElem?_eq_getElem (by omega)]; rfl
        rw [← e1, ← e2] at hc
        have x1 := hixh.out a i hia
        have x2 := hixh.out b i hib
        generalize byteAt a i = x at *
        generalize byteAt b i = y at *
        have hi1 : (i : Int) < (a.size : Int) := by omega
        have hi2 : (i : Int) < (b.size : Int) := by omega
        clear e1 e2 hixh
        have hbe : ((x.toNat : Int) == (y.toNat : Int)) = decide (x = y) := by
          rw [Bool.eq_iff_iff]
          simp [← UInt8.toNat_inj]
          constructor <;> intro h <;> omega
        replace hB := Lib.hid hB
        by_cases hxy : x = y
        · subst hxy
          have hxx : ¬ x < x := UInt8.lt_irrefl x
          rw [if_neg hxx, if_neg hxx] at hc
          replace hc := Lib.hid hc
          clear hbe hxx
          have hn2 : i + 1 ≤ n := by have := hn.out; omega
          go_wp2_with fail
          go_quiet (fail)
          go_wp2_with fail
          go_roundg (n - i)
          case rel => exact ⟨i + 1, by omega, hn2, by go_num, hc.out, below_drewN hB.out _⟩
          case measure => omega
        · have hne : ((x.toNat : Int) == (y.toNat : Int)) = false := by rw [hbe]; simp [hxy]
          have hlt : slt a b = decide ((x.toNat : Int) < (y.toNat : Int)) := by
            unfold slt scmp
            rw [hc]
            by_cases h1 : x < y
            · have : (x.toNat : Int) < (y.toNat : Int) := by have := UInt8.lt_iff_toNat_lt.1 h1; omega
              simp [h1, this]
            · have h2 : y < x := by
                rcases Nat.lt_trichotomy x.toNat y.toNat with h | h | h
                · exact absurd (UInt8.lt_iff_toNat_lt.2 h) h1
                · exact absurd (UInt8.toNat_inj.1 h) hxy
                · exact UInt8.lt_iff_toNat_lt.2 h
              have : ¬ (x.toNat : Int) < (y.toNat : Int) := fun h => h1 (UInt8.lt_iff_toNat_lt.2 (by omega))
              simp [h1, h2, this]
          replace hlt := Lib.hid hlt
          clear hbe hc hxy
          go_wp2_with fail
          go_quiet (fail)
          go_wp2_with fail
          go_quiet (fail)
          go_wp2_with fail
          go_ret
          exact ⟨by rw [hlt.out]; simp, below_drewN (below_drewN hB.out _) _⟩
      · have hlt : slt a b = decide ((a.size : Int) < (b.size : Int)) := by
          unfold slt scmp
          rw [hc, show b.data.toList.drop i = [] from List.drop_eq_nil_of_le (by omega), List.drop_eq_getElem_cons (l := a.data.toList) (i := i) (by omega)]
          simp [Lib.compareBytes]
          omega
        replace hlt := Lib.hid hlt
        replace hB := Lib.hid hB
        clear hc hixh
        have hi1 : (i : Int) < (a.size : Int) := by omega
        have hi2 : ¬ (i : Int) < (b.size : Int) := by omega
        go_wp2_with fail
        go_ret
        exact ⟨by rw [hlt.out]; simp, hB.out⟩
    · have hlt : slt a b = decide ((a.size : Int) < (b.size : Int)) := by
        unfold slt scmp
        rw [hc, show a.data.toList.drop i = [] from List.drop_eq_nil_of_le (by omega)]
        by_cases hib : i < b.size
        · rw [List.drop_eq_getElem_cons (l := b.data.toList) (i := i) (by omega)]
          simp [Lib.compareBytes]
          omega
        · rw [show b.data.toList.drop i = [] from List.drop_eq_nil_of_le (by omega)]
          simp [Lib.compareBytes]
          have := hn.out
          omega
      replace hlt := Lib.hid hlt
      replace hB := Lib.hid hB
      clear hc hixh
      have hi1 : ¬ (i : Int) < (a.size : Int) := by omega
      go_wp2_with fail
      go_ret
      exact ⟨by rw [hlt.out]; simp, hB.out⟩
end Go.Proofs.YtmhlokomlngdmaaGreat
