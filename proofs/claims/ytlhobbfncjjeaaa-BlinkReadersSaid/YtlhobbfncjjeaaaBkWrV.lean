/- A writer's visits as a reader bears them; a tree of a pool of its own for the writers. -/
import Derived.Test.YtlhobbfncjjeaaaBkWr
import Derived.Deep.Slices
namespace Go.Proofs.Ytlhobbfncjjeaaa
open Go.RowKit
theorem cap_of {H : Type} {enc : TypeId × Value → H} {P : Program} {w : World} {base : Nat} {spare : Nat → Bool} {held : Bool} {fuel : Nat} {t e : TypeId} {a : Option Addr} {len cap : Nat} {x : DataW H × List MemPlace} (ht : P.underlying t = some (.slice e))
    (h : DataW.trod enc P w base spare held fuel t [.slice a len cap] = some x) : len ≤ cap ∧ cap ≤ maxLen := by
  rcases Deep.open_slice ht h with ⟨hcs, _⟩ | ⟨a', len', cap', m, n', D, Pl, hcs, hb, hl, hm, hmm, _, hx⟩
  · simp at hcs
    obtain ⟨rfl, rfl, rfl⟩ := hcs
    unfold maxLen
    omega
  · simp at hcs
    obtain ⟨rfl, rfl, rfl⟩ := hcs
    exact ⟨hl, hm⟩
abbrev wr10K : List Kd := [.inr false, .inr false, .inr true]
theorem writes_row {w : World} {s : Option Addr} {len : Nat} {rows : List (List Value)} (hr : IsFlat wr10K w s len rows) :
    ∀ k, k < len → ∃ x : W10, ∃ b off, s = some ⟨b, off, none⟩ ∧ b < w.heap.size ∧ WCell w b (off + k * 3) x ∧ x.1.size ≤ maxLen := by
  intro k hk
  rcases hr with ⟨h0, _⟩ | ⟨b, off, hs, _, _, hb, hc⟩
  · omega
  obtain ⟨h1, h2⟩ := hc k hk
  generalize rows.getD k [] = r at *
  obtain ⟨v0, v1, v2, rfl, ⟨x1, rfl, q1⟩, ⟨x2, rfl, _⟩, ⟨b3, rfl⟩⟩ := h1.of3
  have g0 := h2 0 (by simp)
  have g1 := h2 1 (by simp)
  have g2 := h2 2 (by simp)
  simp only [List.length_cons, List.length_nil, Nat.zero_add, Nat.reduceAdd, Nat.add_zero, ← Nat.add_assoc, List.getElem?_cons_zero, List.getElem?_cons_succ] at g0 g1 g2
  exact ⟨(x1, x2, b3), b, off, hs, hb, ⟨g0, g1, g2⟩, q1⟩
theorem writes_of_flat {w : World} {s : Option Addr} {len : Nat} {rows : List (List Value)} (hr : IsFlat wr10K w s len rows) : ∃ L : List W10, L.length = len ∧ WActs w s L ∧ WSz L := by
  have key : ∀ n, n ≤ len → ∃ L : List W10, L.length = n ∧ WActs w s L ∧ WSz L := by
    intro n
    induction n with
    | zero => exact fun _ => ⟨[], rfl, fun k x hx => by simp at hx, fun x hx => by cases hx⟩
    | succ n ih =>
      intro hn
      obtain ⟨L, hL, hA, hS⟩ := ih (by omega)
      obtain ⟨y, b, off, y1, y2, y3, y4⟩ := writes_row hr n (by omega)
      refine ⟨L ++ [y], by simp [hL], fun k x hx => ?_, fun x hx => ?_⟩
      rotate_left 1
      · rcases List.mem_append.1 hx with h1 | h1
        · exact hS x h1
        · simp at h1
          subst h1
          exact y4
      rcases Nat.lt_or_ge k L.length with h1 | h1
      · rw [List.getElem?_append_left h1] at hx
        exact hA k x hx
      · rw [List.getElem?_append_right h1] at hx
        have h2 := (List.getElem?_eq_some_iff.1 hx).1
        simp at h2
        have h3 : k = n := by omega
        subst h3
        rw [hL] at hx
        simp at hx
        rw [← hx]
        exact ⟨b, off, y1, y2, y3⟩
  exact key len (Nat.le_refl _)
structure RS where
  Ls : List Lev
  at_ : Nat
  n : Nat
def wrVis (C0 : Cont) (wl : List W10) : Vis RS where
  Ls := RS.Ls
  ms := fun s => (List.range (s.at_ + 1)).map (mom C0 wl)
  cnt := RS.n
  wk := fun s => wl.length - s.at_
  Step := fun s s' => s'.n = s.n + 1 ∧ s.at_ ≤ s'.at_ ∧ s'.at_ ≤ wl.length ∧ Evo s.Ls s'.Ls ∧ (s'.at_ = s.at_ → s'.Ls = s.Ls) ∧ content s'.Ls = mom C0 wl s'.at_
theorem wrVis_ok (C0 : Cont) (wl : List W10) : VisOK (wrVis C0 wl) where
  evo := fun _ _ h => h.2.2.2.1
  ms := by
    rintro s s' ⟨h1, h2, h3, h4, h5, h6⟩
    refine ⟨fun c hc => ?_, ?_⟩
    · obtain ⟨j, hj, rfl⟩ := List.mem_map.1 hc
      rw [List.mem_range] at hj
      exact List.mem_map.2 ⟨j, List.mem_range.2 (by omega), rfl⟩
    · rw [show (wrVis C0 wl).Ls s' = s'.Ls from rfl, h6]
      exact List.mem_map.2 ⟨s'.at_, List.mem_range.2 (by omega), rfl⟩
  work := by
    rintro s s' ⟨h1, h2, h3, h4, h5, h6⟩
    refine ⟨by show wl.length - s'.at_ ≤ wl.length - s.at_; omega, fun h => h5 ?_⟩
    have : wl.length - s'.at_ = wl.length - s.at_ := h
    omega
  cnt := fun _ _ h => h.1
/-- The steps of a visit, whatever its number is. -/
def StepsAt (w0 : World) (st : Option Addr) (stl : Nat) : Prop := ∀ n, n < stl → ∃ b off x, st = some ⟨b, off, none⟩ ∧ b < w0.heap.size ∧ w0.cell? ⟨b, off + n, none⟩ = some (.int .u8 x) ∧ 0 ≤ x ∧ x < 256
theorem StepsAt.k {w0 W : World} {st : Option Addr} {stl : Nat} (h : StepsAt w0 st stl) (hb : Below w0.heap.size w0 W) (n : Nat) : ∃ k, StepK W st stl n k := by
  rcases Nat.lt_or_ge n stl with h1 | h1
  · obtain ⟨b, off, x, e, h2, h3, h4, h5⟩ := h n h1
    exact ⟨(x % 8).toNat, .inl ⟨h1, b, off, x, e, Nat.lt_of_lt_of_le h2 hb.size, keep hb h3, h4, h5, by omega⟩⟩
  · exact ⟨0, .inr ⟨h1, rfl⟩⟩
theorem steps_of_flat {w : World} {s : Option Addr} {len : Nat} {rows : List (List Value)} (hr : IsFlat [.inl .u8] w s len rows) : StepsAt w s len := by
  intro n hn
  obtain ⟨b, off, x, h1, h2, h3, h4⟩ := byte_row hr n hn
  exact ⟨b, off, x, h1, block_lt_of_cell h2, h2, h3, by omega⟩
def WrI (w0 : World) (P : Nat × Nat × Nat) (gens : List Int) (rt i t : Nat) (C0 : Cont) (wl : List W10) (lv0 y yr : Nat) (sl : Option Addr) (sc : Nat) (st : Option Addr) (stl stc : Nat) (s : RS) (W : World) (ρ : Nat → Nat) : Prop :=
  RT w0 P gens rt i t C0 wl lv0 s.Ls s.at_ W ρ ∧ s.at_ ≤ wl.length ∧ ρ y = yr ∧ WrB W y t sl wl.length sc s.at_ st stl stc s.n
section
variable {w0 : World} {P : Nat × Nat × Nat} {gens : List Int} {rt i t lv0 y yr sc stl stc : Nat} {sl st : Option Addr} {C0 : Cont} {wl : List W10}
theorem wr_visits (hyr : yr = 7 ∨ yr = 8) (hw : ∀ W, Below w0.heap.size w0 W → WActs W sl wl) (hst : StepsAt w0 st stl) (hl : lv0 + wl.length ≤ 500) (hs : CSort C0) (hC : C0.length + wl.length ≤ 50000) (hrt : 4 ≤ rt ∧ rt ≤ 5) :
    VisW (wrVis C0 wl) w0 t 12 #[.pointer (some ⟨y, 0, none⟩)] #[] (yr :: wr0 i rt) 1000000000000 (WrI w0 P gens rt i t C0 wl lv0 y yr sl sc st stl stc) where
  r0 := by
    unfold wr0
    simp
    omega
  tree := by
    rintro s W ρ ⟨h1, h2, h3, h4⟩
    refine ⟨h1.sane (by omega), ?_, ?_⟩
    · rw [show (wrVis C0 wl).Ls s = s.Ls from rfl, h1.con]
      exact List.mem_map.2 ⟨s.at_, List.mem_range.2 (by omega), rfl⟩
    · obtain ⟨free, D, d, r, hB, hT, _⟩ := h1.ex
      exact ⟨P, gens, free, D, rt, i, d, r, _, hB, hT⟩
  own := by
    rintro s W W' ρ S ⟨h1, h2, h3, h4⟩ hu hS
    have hr : RU [0] W W' ρ ρ := RU.upd h1.ro hu (fun k hk hl => by simp [(hS k hk hl).2])
    exact ⟨h1.ru hr (own_below h1.ro.bel hu fun k hk hl => (hS k hk hl).1) (by simp), h2, h3, h4.ru hr (by rw [h3]; simp; omega)⟩
  enter := enters_of Try.func12 (by kernel_rfl) rfl
  call := by
    rintro s W ρ ⟨h1, h2, h3, h4⟩ hlim
    obtain ⟨k, hk⟩ := hst.k h1.ro.bel s.n
    refine (visit_any h1 h3 hyr h4 hw h2 hk (Nat.le_of_lt hlim) hl hs hC).mono ?_
    rintro e W' ⟨rfl, Ls', ρ', g1, g2, g3, g4, g5, g6⟩
    exact ⟨rfl, ⟨Ls', min (s.at_ + k) wl.length, s.n + 1⟩, ρ', ⟨rfl, by show s.at_ ≤ min (s.at_ + k) wl.length; omega, Nat.min_le_right _ _, g5, g6, g1.con⟩, ⟨g1, Nat.min_le_right _ _, g2, g3⟩, g4⟩
end
/-- A new tree of a new pool, for writers. -/
theorem RT.new {w0 w : World} {g f p : Nat} (hb : Below w0.heap.size w0 w) (hp : PoolIs w p g f (List.replicate 4096 1) (List.replicate 4096 true)) (hl : w0.heap.size ≤ p ∧ w0.heap.size ≤ g ∧ w0.heap.size ≤ f) (wl : List W10) :
    Calls Try.prog 11 #[.pointer (some ⟨p, 0, none⟩)] w fun e w' => ∃ t, e = .returned (.tuple #[.pointer (some ⟨t, 0, none⟩), .int .i64 0]) ∧ ∃ P gens rt i Ls ρ, RT w0 P gens rt i t [] wl 1 Ls 0 w' ρ ∧ (∀ k, ρ k ≠ 7) ∧ (∀ k, ρ k ≠ 8) := by
  refine (TreeIs.new hb hp hl (by omega)).mono ?_
  rintro e w' ⟨t, he, ρ, P, gens, free, D, rt, i, d, Ls, r, h1, h2, h3, h4, h5, h6, h7, h8⟩
  refine ⟨t, he, P, gens, rt, i, Ls, reC 8 (reC 7 ρ), ⟨⟨free, D, d, r, (h2.reC (.inl rfl)).reC (.inr rfl), ?_, h6⟩, h4, h5, h7⟩, fun k => ?_, fun k => reC_ne (by omega)⟩
  · rw [h5]
    exact (h3.reC (.inl rfl)).reC (.inr rfl)
  · unfold reC
    split <;> split <;> omega
/-- Other writes behind these. -/
theorem RT.again {w0 W : World} {P : Nat × Nat × Nat} {gens : List Int} {rt i t lv0 at_ : Nat} {C0 : Cont} {wl : List W10} {Ls : List Lev} {ρ : Nat → Nat} (h : RT w0 P gens rt i t C0 wl lv0 Ls at_ W ρ) (wl2 : List W10) : RT w0 P gens rt i t (mom C0 wl at_) wl2 (lv0 + at_) Ls 0 W ρ :=
  ⟨h.ex, h.slim, by rw [h.con, mom_zero], h.lvs⟩
/-- A block gets a role of the law's own. -/
theorem RT.marked {w0 w W : World} {P : Nat × Nat × Nat} {gens : List Int} {rt i t lv0 at_ : Nat} {C0 : Cont} {wl : List W10} {Ls : List Lev} {ρ : Nat → Nat} (h : RT w0 P gens rt i t C0 wl lv0 Ls at_ w ρ) (hb : Below w.heap.size w W) {y : Nat} (hy : w.heap.size ≤ y) (hl : y < W.heap.size) (c : Nat) : RT w0 P gens rt i t C0 wl lv0 Ls at_ W (mark ρ y c) ∧ RU [] w W ρ (mark ρ y c) := by
  have hru : RU [] w W ρ (mark ρ y c) := (RU.below h.ro hb).mark hy hl
  exact ⟨h.ru hru (h.ro.bel.trans (hb.mono h.ro.bel.size)) (by simp), hru⟩
theorem RT.check {w0 W : World} {P : Nat × Nat × Nat} {gens : List Int} {rt i t lv0 at_ : Nat} {C0 : Cont} {wl : List W10} {Ls : List Lev} {ρ : Nat → Nat} (h : RT w0 P gens rt i t C0 wl lv0 Ls at_ W ρ) (hl : lv0 + at_ ≤ 10000) (hs : CSort C0) (hC : C0.length + at_ ≤ 100000) :
    Calls Try.prog 19 #[.pointer (some ⟨t, 0, none⟩)] W fun e w' => e = .returned (.bool true) ∧ Below W.heap.size W w' := by
  obtain ⟨free, D, d, r, hB, hT, hc⟩ := h.ex
  have hlen : (content Ls).length ≤ 100000 := by rw [h.con]; have := mom_len (wl := wl) hs at_; omega
  exact hT.check hB h.slim (Nat.le_trans (h.sane hl).nod (by omega)) hlen rfl
theorem at_ruB {α : Type} {k : Nat} {f : α → List Value} {a : Option Addr} {c : Nat} {L : List α} {w w' : World} {ρ ρ' : Nat → Nat} {rs : List Nat} (h : At w k f a c L) (hu : RU rs w w' ρ ρ') (hb : ∀ b, b ∈ bks a L → ρ b ∉ rs) : At w' k f a c L := by
  obtain ⟨h1, h2, h3⟩ := h
  rcases h3 with ⟨rfl, h3⟩ | ⟨b, o, rfl, h4, h5⟩
  · exact ⟨h1, h2, .inl ⟨rfl, h3⟩⟩
  · refine ⟨h1, h2, .inr ⟨b, o, rfl, fun hn => Nat.lt_of_lt_of_le (h4 hn) hu.size, fun i x hx j y hy => ?_⟩⟩
    have hn : L ≠ [] := by intro e; rw [e] at hx; simp at hx
    have hr : b ∈ bks (some ⟨b, o, none⟩) L := by
      cases L with
      | nil => exact absurd rfl hn
      | cons x L => simp [bks]
    rw [World.cell?_of_block (hu.block b (h4 hn) (hb b hr))]
    exact h5 i x hx j y hy
theorem row_bks {base : Nat} {w : World} {a : Option Addr} {c : Nat} {C : Cont} (h : Row base 101 2 pcel w (.slice a C.length c) C) : ∀ b, b ∈ bks a C → base ≤ b := by
  intro b hb
  unfold bks at hb
  cases C with
  | nil => simp at hb
  | cons x C =>
    rcases h.cases with ⟨_, h1⟩ | ⟨g, cap, e, h2, _⟩
    · cases h1
    · injection e with e _ _
      subst e
      simp at hb
      subst hb
      exact h2
end Go.Proofs.Ytlhobbfncjjeaaa
