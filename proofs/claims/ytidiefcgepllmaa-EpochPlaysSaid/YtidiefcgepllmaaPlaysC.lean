/- The law EpochPlays: what a function of the law's does when it is run. -/
import Derived.Test.YtidiefcgepllmaaPlaysR
namespace Go.Proofs.Ytidiefcgepllmaa
open Go.RowKit
def RunE (B : PB) (m : Nat) (w : World) (v : Value) (O : List Nat) (s : PS) (i : Nat) (a : A4) (g : EpG) (L : List Ret) (q : Ending) (w' : World) : Prop :=
  q = .returned (.tuple #[]) ∧ ((a.h ≠ 3 ∧ ES B m w v O w' { s with ran := s.ran ++ [(i : Int)] } (thenG a g) true L) ∨
    (a.h = 3 ∧ ∃ x : Nat × Nat × Nat, ES B m w v O w' { s with ran := s.ran ++ [(i : Int)], acts := s.acts ++ [⟨2, 0, 0⟩], cnt := s.cnt + 1, bs := ((s.bs ++ [(x.1, Obj.cells #[.pointer (some ⟨B.xb, 0, none⟩)] 31)]) ++ [(x.2.2, Obj.cells #[.int .i64 2, .int .i64 0, .int .i64 0] 39)]) ++ [(x.2.1, Obj.cells #[.int .i64 s.cnt] 3)] } g true (L ++ [⟨35, capsP x, g.now⟩])))
set_option maxRecDepth 100000 in
set_option maxHeartbeats 2000000 in
theorem retire1_any {B : PB} {m : Nat} {w : World} {v : Value} {O : List Nat} {s : PS} {g : EpG} {L : List Ret} (h : EP B m w v O s g true L) (i xx na nn : Nat) (a : A4)
    (hbx : (xx, Obj.cells #[.pointer (some ⟨B.xb, 0, none⟩)] 31) ∈ s.bs) (hbn : (nn, Obj.cells #[.int .i64 i] 3) ∈ s.bs) (hba : (na, Obj.cells #[.int .i64 a.d, .int .i64 a.t, .int .i64 a.h] 39) ∈ s.bs)
    (hc0 : 0 ≤ s.cnt) (hc1 : s.cnt ≤ 100000) (hran : s.ran.length ≤ 100000) (hacts : s.acts.length ≤ 100000) (hnow : g.now < 1000000000) (hL : L.length < 1000000) :
    Calls Try.prog 35 #[.pointer (some ⟨xx, 0, none⟩), .pointer (some ⟨nn, 0, none⟩), .pointer (some ⟨na, 0, none⟩)] w (RunE B m w v O s i a g L) := by
  have hbb : ∀ wz : World, (∀ p, p ∈ s.bs → wz.heap[p.1]? = some p.2) → wz.cell? ⟨xx, 0, none⟩ = some (.pointer (some ⟨B.xb, 0, none⟩)) ∧ wz.cell? ⟨nn, 0, none⟩ = some (.int .i64 i) ∧ wz.cell? ⟨na, 1, none⟩ = some (.int .i64 a.t) ∧ wz.cell? ⟨na, 2, none⟩ = some (.int .i64 a.h) ∧ xx < wz.heap.size ∧ nn < wz.heap.size ∧ na < wz.heap.size := fun wz hz => by
    have z0 := hz _ hbx
    have z1 := hz _ hba
    have z2 := hz _ hbn
    exact ⟨by rw [cell_of_heap z0]; rfl, by rw [cell_of_heap z2]; rfl, by rw [cell_of_heap z1]; rfl, by rw [cell_of_heap z1]; rfl, heap_lt z0, heap_lt z2, heap_lt z1⟩
  have hb5 : Below w.heap.size w (w.drew.alloc (.cells #[.int .i64 i] 3)) := (Below.refl _ _).drew.alloc (Nat.le_refl _) _
  obtain ⟨v5, O5, h5, hu5, hg5⟩ := h.below hb5
  obtain ⟨rv5, av5, ho5, hk5, happ5⟩ := h5.ranApp
  obtain ⟨rv0, av0, ho0⟩ := h.opens
  obtain ⟨q0, q1, q2, q3, q4, q5, q6⟩ := hbb w ho0.box
  have xl := ho0.lt
  obtain ⟨a5, c5, e5⟩ := ho5.ran.shape
  subst e5
  have e2 : w.cell? ⟨B.xb, 2, none⟩ = some (.slice a5 s.ran.length c5) := by rw [← hb5.cell xl]; exact ho5.c2
  have hR5 := Lib.hid ho5.ran
  have hS5 : SrcOf (w.drew.alloc (.cells #[.int .i64 i] 3)) (.slice (some ⟨w.drew.heap.size, 0, none⟩) 1 1) 1 1 ([(i : Int)].flatMap intCell) := SrcOf.one w.drew 3 (intCell i) (intCell_one i)
  replace hS5 := Lib.hid hS5
  have hbs5 := Lib.hid h5.low
  replace hk5 := Lib.hid hk5
  replace happ5 := Lib.hid happ5
  replace hbb := Lib.hid hbb
  replace hu5 := Lib.hid hu5
  replace hg5 := Lib.hid hg5
  obtain ⟨i1, hi1, hz1, hs1, hy1⟩ := int_infoR
  have hlen5 : s.ran.length + 1 ≤ maxLen := by unfold maxLen; omega
  have hby5 : (s.ran.length + 1) * 8 ≤ 140737488355328 := by omega
  replace hlen5 := Lib.hid hlen5
  replace hby5 := Lib.hid hby5
  clear ho0 ho5 h5 hb5 h hbx hbn hba
  go_enter Try.func35, Try.ntmps35
  go_upto_region 0 with fail
  go_cut [10] (fun _ wx => ES B m w v O wx { s with ran := s.ran ++ [(i : Int)] } g true L)
  case first =>
    go_region_law (refine step_append_row (f := intCell) (M := [(i : Int)]) _ rfl (.tmp 7) (.tmp 9) 27 rfl B.base 3 i1 (.int .i64 0) 1 8 Try.underlying27 hi1 hz1 hs1 hy1 rfl (by decide) (.slice a5 s.ran.length c5) s.ran (by simp [Act.eval]) hR5.out (.slice (some ⟨w.drew.heap.size, 0, none⟩) 1 1) (by simp [Act.eval]) hS5.out hlen5.out hby5.out hbs5.out ?_; intro a6 c6 w6 hrow hu hat; obtain ⟨y0, y1, y2, y3⟩ := hk5.out w6 hu; obtain ⟨y4, y5, y6, y7, y8⟩ := hbb.out w6 y3; replace y3 := Lib.hid y3; replace hrow := Lib.hid hrow; replace hu := Lib.hid hu; replace hat := Lib.hid hat)
    all_goals
      go_wp2_with fail
      go_meet
      exact ES.comp hu5.out hg5.out (happ5.out _ _ _ hu.out hrow.out (own_at hat.out))
  case rest =>
    clear hR5 hS5 hbs5 hk5 happ5 hu5 hg5 hlen5 hby5 e2 xl q0 q1 q2 q3 q4 q5 q6 hi1 hz1 hs1 hy1
    obtain ⟨v7, O7, h7, hu7, hg7⟩ := hcut
    obtain ⟨rv7, av7, ho7⟩ := h7.opens
    obtain ⟨q0, q1, q2, q3, q4, q5, q6⟩ := hbb.out wc ho7.box
    have c0 := ho7.c0
    have c5' := ho7.c5
    have cl := ho7.lt
    have cf := ho7.fr 5
    replace hu7 := Lib.hid hu7
    replace hg7 := Lib.hid hg7
    clear ho7
    by_cases h1 : a.h = 1
    · obtain ⟨v8, O8, h8, hu8, hg8⟩ := h7.below (Below.refl wc.heap.size wc).drew
      obtain ⟨d, hd⟩ : ∃ d : Bool, decide (∃ y, y ∈ g.S ∧ y.task = a.t) = !d := ⟨!(decide (∃ y, y ∈ g.S ∧ y.task = a.t)), by simp⟩
      have hcl := Lib.hid (h8.Pin a.t hnow hd)
      replace hu8 := Lib.hid hu8
      replace hg8 := Lib.hid hg8
      have hfin := Lib.hid h1
      rw [h1] at q3
      clear hd h1 h8
      go_wp2_with fail
      go_region_with ((go_at_call 12; refine hcl.out.mono ?_; rintro z w8 ⟨rfl, h9⟩; replace h9 := Lib.hid h9))
      all_goals
        go_wp2_with fail
        go_end0
        refine ⟨rfl, .inl ⟨by rw [hfin.out]; decide, ?_⟩⟩
        rw [show thenG a g = pinG a.t g from if_pos hfin.out]
        exact ES.comp hu7.out hg7.out (ES.comp hu8.out hg8.out h9.out)
    by_cases h2 : a.h = 2
    · obtain ⟨v8, O8, h8, hu8, hg8⟩ := h7.below (Below.refl wc.heap.size wc).drew
      have hcl := Lib.hid (h8.Unpin a.t rfl)
      replace hu8 := Lib.hid hu8
      replace hg8 := Lib.hid hg8
      have hfin := Lib.hid h2
      rw [h2] at q3
      clear h1 h2 h8
      go_wp2_with fail
      go_region_with ((go_at_call 15; refine hcl.out.mono ?_; rintro z w8 ⟨rfl, h9⟩; replace h9 := Lib.hid h9))
      all_goals
        go_wp2_with fail
        go_end0
        refine ⟨rfl, .inl ⟨by rw [hfin.out]; decide, ?_⟩⟩
        rw [show thenG a g = unpinG a.t g by unfold thenG; rw [hfin.out]; rfl]
        exact ES.comp hu7.out hg7.out (ES.comp hu8.out hg8.out h9.out)
    by_cases h3 : a.h = 3
    · have hcl := Lib.hid (retire4_any h7 ⟨2, 0, 0⟩ ⟨hc0, hc1⟩ hacts hL)
      have hfin := Lib.hid h3
      rw [h3] at q3
      clear h1 h2 h3
      go_wp2_with fail
      refine hcl.out.mono ?_
      clear hcl
      rintro z w8 ⟨x, rfl, h9⟩
      replace h9 := Lib.hid h9
      go_wp2_with fail
      go_end0
      exact ⟨rfl, .inr ⟨hfin.out, x, ES.comp hu7.out hg7.out h9.out⟩⟩
    have hth : thenG a g = g := by unfold thenG; rw [if_neg h1, if_neg h2]
    have hfin := Lib.hid h3
    have b1 : (a.h == 1) = false := beq_eq_false_iff_ne.2 h1
    have b2 : (a.h == 2) = false := beq_eq_false_iff_ne.2 h2
    have b3 : (a.h == 3) = false := beq_eq_false_iff_ne.2 h3
    have hF7 := Lib.hid (ES.comp hu7.out hg7.out (ES.refl h7))
    by_cases h4 : a.h = 4
    · obtain ⟨v8, O8, h8, hu8, hg8⟩ := h7.below (Below.refl wc.heap.size wc).drew
      have hcl := Lib.hid h8.Collect_busy
      have hfw : Hid (∀ w9, Below wc.drew.heap.size wc.drew w9 → w9.cell? ⟨xx, 0, none⟩ = some (.pointer (some ⟨B.xb, 0, none⟩)) ∧ w9.cell? ⟨B.xb, 5, none⟩ = some (.bool false) ∧ w9.frozen? ⟨B.xb, 5, none⟩ = false ∧ B.xb < w9.heap.size ∧ ES B m w v O (w9.setCell ⟨B.xb, 5, none⟩ (.bool false)) { s with ran := s.ran ++ [(i : Int)] } g true L) := Lib.hid (fun w9 hb => by
        obtain ⟨v9, O9, h9, hu9, hg9⟩ := h8.below hb
        obtain ⟨rv9, av9, ho9⟩ := h9.opens
        exact ⟨(hbb.out w9 ho9.box).1, ho9.c5, ho9.fr 5, ho9.lt, ES.comp hu7.out hg7.out (ES.comp hu8 hg8 (ES.comp hu9 hg9 h9.setWrong))⟩)
      rw [h4] at q3
      clear h1 h2 h3 h4 h8 b1 b2 b3 hu8 hg8
      go_wp2_with fail
      go_region_with ((go_at_call 14; refine hcl.out.mono ?_; rintro z w8 ⟨rfl, h9⟩; obtain ⟨y0, y1, y2, y3, y4⟩ := hfw.out w8 h9; replace y4 := Lib.hid y4; clear h9))
      all_goals
        go_wp2_with fail
        go_end0
        exact ⟨rfl, .inl ⟨hfin.out, by rw [hth]; exact y4.out⟩⟩
    · have b4 : (a.h == 4) = false := beq_eq_false_iff_ne.2 h4
      replace hth := Lib.hid hth
      clear h1 h2 h3 h4
      go_wp2_with fail
      go_end0
      exact ⟨rfl, .inl ⟨hfin.out, by rw [hth.out]; exact hF7.out⟩⟩
end Go.Proofs.Ytidiefcgepllmaa
