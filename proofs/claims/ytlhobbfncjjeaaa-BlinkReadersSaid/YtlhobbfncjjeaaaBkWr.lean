/- A writer of a B-link tree, visit by visit: its contract; it is a visit that readers bear. -/
import Derived.Test.YtlhobbfncjjeaaaBkRead
import Derived.Test.YtlhobbfncjjeaaaBkRefM
import Derived.Test.YtlhobbfncjjeaaaHeldG
namespace Go.Proofs.Ytlhobbfncjjeaaa
open Go.RowKit
/-- The tree behind at_ of the writes wl, which began at C0. -/
structure RT (w0 : World) (P : Nat × Nat × Nat) (gens : List Int) (rt i t : Nat) (C0 : Cont) (wl : List W10) (lv0 : Nat) (Ls : List Lev) (at_ : Nat) (W : World) (ρ : Nat → Nat) : Prop where
  ex : ∃ free D d r, BW w0 W ρ P gens free D ∧ Tr W ρ P D rt i t d Ls r (content Ls).length ∧ free.count true + nodes Ls = 4096
  slim : Slim Ls
  con : content Ls = mom C0 wl at_
  lvs : leaves Ls ≤ lv0 + at_
def wr0 (i rt : Nat) : List Nat := [1, 2, 3, 12 + 3 * i, 10 + 3 * i, rt]
section
variable {w0 W W' : World} {P : Nat × Nat × Nat} {gens : List Int} {rt i t lv0 at_ : Nat} {C0 : Cont} {wl : List W10} {Ls : List Lev} {ρ ρ' : Nat → Nat} {rs : List Nat}
theorem RT.ro (h : RT w0 P gens rt i t C0 wl lv0 Ls at_ W ρ) : Ro w0 W ρ := by
  obtain ⟨free, D, d, r, hB, _⟩ := h.ex
  exact hB.ro
theorem RT.rt4 (h : RT w0 P gens rt i t C0 wl lv0 Ls at_ W ρ) : 4 ≤ rt ∧ rt ≤ 5 := by
  obtain ⟨free, D, d, r, _, hT, _⟩ := h.ex
  exact hT.rt4
theorem RT.sane (h : RT w0 P gens rt i t C0 wl lv0 Ls at_ W ρ) (hl : lv0 + at_ ≤ 10000) : Sane Ls := by
  obtain ⟨free, D, d, r, _, hT, _⟩ := h.ex
  obtain ⟨g1, g2⟩ := TreeIs.hll hT.tow hT.thk (Nat.le_trans h.lvs hl) (Nat.le_refl _)
  exact ⟨hT.tow, h.slim, g1, g2⟩
theorem RT.ru (h : RT w0 P gens rt i t C0 wl lv0 Ls at_ W ρ) (hu : RU rs W W' ρ ρ') (hb : Below w0.heap.size w0 W') (hr : ∀ r, r ∈ rs → r = 0 ∨ r = 7 ∨ r = 8) : RT w0 P gens rt i t C0 wl lv0 Ls at_ W' ρ' := by
  obtain ⟨free, D, d, r, hB, hT, hc⟩ := h.ex
  have := hT.rt4
  refine ⟨⟨free, D, d, r, hB.turn0 hu hb (fun r hr' => by have := hr r hr'; omega), hT.ru hu (fun h6 => by have := hr 6 h6; omega) (fun h6 => by have := hr rt h6; omega), hc⟩, h.slim, h.con, h.lvs⟩
theorem RT.below (h : RT w0 P gens rt i t C0 wl lv0 Ls at_ W ρ) (hb : Below W.heap.size W W') : RT w0 P gens rt i t C0 wl lv0 Ls at_ W' ρ :=
  h.ru (RU.below (rs := []) h.ro hb) (h.ro.bel.trans (hb.mono h.ro.bel.size)) (by simp)
/-- A block of a role of the law's own is written. -/
theorem RT.upd (h : RT w0 P gens rt i t C0 wl lv0 Ls at_ W ρ) {y yr : Nat} (hy : ρ y = yr) (hyr : yr = 7 ∨ yr = 8) (hu : Upd [y] W W') : RT w0 P gens rt i t C0 wl lv0 Ls at_ W' ρ ∧ RU [yr] W W' ρ ρ := by
  have hr : RU [yr] W W' ρ ρ := RU.upd h.ro hu (fun k hk _ => by simp only [List.mem_singleton] at hk; subst hk; simp [hy])
  exact ⟨h.ru hr (own_below h.ro.bel hu (fun k hk _ => by simp only [List.mem_singleton] at hk; subst hk; exact h.ro.ge (by omega))) (by simp; omega), hr⟩
theorem RT.put (h : RT w0 P gens rt i t C0 wl lv0 Ls at_ W ρ) {x : W10} (hx : wl[at_]? = some x) (hg : x.2.2 = false) (hl : lv0 + wl.length ≤ 500) (hs : CSort C0) (hC : C0.length + wl.length ≤ 50000) :
    Calls Try.prog 25 #[.pointer (some ⟨t, 0, none⟩), .string x.1, .string x.2.1] W fun e W' => ∃ old had, e = .returned (.tuple #[.string old, .bool had, .int .i64 0]) ∧ ∃ Ls' ρ', RT w0 P gens rt i t C0 wl lv0 Ls' (at_ + 1) W' ρ' ∧ RU (wr0 i rt) W W' ρ ρ' ∧ Evo Ls Ls' := by
  obtain ⟨free, D, d, r, hB, hT, hc⟩ := h.ex
  have hlt := (List.getElem?_eq_some_iff.1 hx).1
  have hlen : (content Ls).length ≤ 50000 := by rw [h.con]; have := mom_len (wl := wl) hs at_; omega
  have hn := hT.tow.room hT.thk hc h.lvs (lv := lv0 + at_) (h := 9) (by omega) (by omega) x.1
  refine (hT.put hB h.slim (h.sane (by omega)).len (by omega) x.1 x.2.1).mono ?_
  rintro e w' (⟨_, he, ρ', D', d', free', Ls', r', q1, q2, q3, q4, q5, q6, q7, q8, q9, q10, q11⟩ | ⟨_, hlt, _⟩)
  · refine ⟨_, _, he, Ls', ρ', ⟨⟨free', D', d', r', q1, ?_, by omega⟩, q6, ?_, by have := h.lvs; omega⟩, q2, q11⟩
    · rw [q5, cput_len hT.tow.sorted]
      exact q4
    · rw [q5, h.con, mom_succ hx]
      unfold doneW
      rw [hg]
      rfl
  · omega
theorem RT.del (h : RT w0 P gens rt i t C0 wl lv0 Ls at_ W ρ) {x : W10} (hx : wl[at_]? = some x) (hg : x.2.2 = true) (hl : lv0 + wl.length ≤ 500) (hs : CSort C0) (hC : C0.length + wl.length ≤ 50000) :
    Calls Try.prog 26 #[.pointer (some ⟨t, 0, none⟩), .string x.1] W fun e W' => ∃ old had, e = .returned (.tuple #[.string old, .bool had]) ∧ ∃ Ls' ρ', RT w0 P gens rt i t C0 wl lv0 Ls' (at_ + 1) W' ρ' ∧ RU (wr0 i rt) W W' ρ ρ' ∧ Evo Ls Ls' := by
  obtain ⟨free, D, d, r, hB, hT, hc⟩ := h.ex
  have hlt := (List.getElem?_eq_some_iff.1 hx).1
  have hlen : (content Ls).length ≤ 50000 := by rw [h.con]; have := mom_len (wl := wl) hs at_; omega
  obtain ⟨l1, l2⟩ := cdel_len hT.tow.sorted x.1
  refine (hT.delete hB (slim_flat h.slim) (h.sane (by omega)).len (by omega) x.1 l2).mono ?_
  rintro e w' ⟨he, ρ', D', d', Ls', q1, q2, q3, q4, q5, q6, q7, q8, q9, q10⟩
  refine ⟨_, _, he, Ls', ρ', ⟨⟨free, D', d', r, q1, ?_, by omega⟩, q4 h.slim, ?_, by have := h.lvs; omega⟩, q5.mono (by unfold wr0; simp), q10⟩
  · rw [q3, l1]
    exact q2
  · rw [q3, h.con, mom_succ hx]
    unfold doneW
    rw [hg]
    rfl
end
/-- A writer's block. -/
def WrB (W : World) (y t : Nat) (s : Option Addr) (sl sc at_ : Nat) (st : Option Addr) (stl stc n : Nat) : Prop :=
  W.heap[y]? = some (.cells #[.pointer (some ⟨t, 0, none⟩), .slice s sl sc, .int .i64 at_, .slice st stl stc, .int .i64 n, .bool false] 36)
section
variable {W : World} {y t : Nat} {s st : Option Addr} {sl sc at_ stl stc n : Nat}
theorem WrB.cells (h : WrB W y t s sl sc at_ st stl stc n) : W.cell? ⟨y, 0, none⟩ = some (.pointer (some ⟨t, 0, none⟩)) ∧ W.cell? ⟨y, 1, none⟩ = some (.slice s sl sc) ∧ W.cell? ⟨y, 2, none⟩ = some (.int .i64 at_) ∧ W.cell? ⟨y, 3, none⟩ = some (.slice st stl stc) ∧ W.cell? ⟨y, 4, none⟩ = some (.int .i64 n) ∧ W.cell? ⟨y, 5, none⟩ = some (.bool false) ∧ W.frozen? ⟨y, 2, none⟩ = false ∧ W.frozen? ⟨y, 4, none⟩ = false ∧ W.frozen? ⟨y, 5, none⟩ = false ∧ y < W.heap.size := by
  unfold WrB at h
  refine ⟨?_, ?_, ?_, ?_, ?_, ?_, frozen_of_heap h _, frozen_of_heap h _, frozen_of_heap h _, heap_lt h⟩ <;> rw [cell_of_heap h] <;> rfl
theorem WrB.setAt (h : WrB W y t s sl sc at_ st stl stc n) (a : Nat) : WrB (W.setCell ⟨y, 2, none⟩ (.int .i64 a)) y t s sl sc a st stl stc n := by
  unfold WrB at h ⊢
  rw [heap_self, h]
  rfl
theorem WrB.setN (h : WrB W y t s sl sc at_ st stl stc n) (a : Nat) : WrB (W.setCell ⟨y, 4, none⟩ (.int .i64 a)) y t s sl sc at_ st stl stc a := by
  unfold WrB at h ⊢
  rw [heap_self, h]
  rfl
theorem WrB.setF (h : WrB W y t s sl sc at_ st stl stc n) : WrB (W.setCell ⟨y, 5, none⟩ (.bool false)) y t s sl sc at_ st stl stc n := by
  unfold WrB at h ⊢
  rw [heap_self, h]
  rfl
theorem WrB.ru {W' : World} {rs : List Nat} {ρ ρ' : Nat → Nat} (h : WrB W y t s sl sc at_ st stl stc n) (hu : RU rs W W' ρ ρ') (hr : ρ y ∉ rs) : WrB W' y t s sl sc at_ st stl stc n := hu.heap h hr
end
/-- How many writes a visit does. -/
def StepK (W : World) (st : Option Addr) (stl n k : Nat) : Prop := (n < stl ∧ ∃ b off x, st = some ⟨b, off, none⟩ ∧ b < W.heap.size ∧ W.cell? ⟨b, off + n, none⟩ = some (.int .u8 x) ∧ 0 ≤ x ∧ x < 256 ∧ (k : Int) = x % 8) ∨ (stl ≤ n ∧ k = 0)
def VisitEnd (w0 : World) (P : Nat × Nat × Nat) (gens : List Int) (rt i t : Nat) (C0 : Cont) (wl : List W10) (lv0 : Nat) (Ls : List Lev) (at_ : Nat) (y yr : Nat) (s : Option Addr) (sc : Nat) (st : Option Addr) (stl stc n k : Nat) (W : World) (ρ : Nat → Nat) (e : Ending) (W' : World) : Prop :=
  e = .returned (.tuple #[]) ∧ ∃ Ls' ρ', RT w0 P gens rt i t C0 wl lv0 Ls' (min (at_ + k) wl.length) W' ρ' ∧ ρ' y = yr ∧ WrB W' y t s wl.length sc (min (at_ + k) wl.length) st stl stc (n + 1) ∧ RU (yr :: wr0 i rt) W W' ρ ρ' ∧ Evo Ls Ls' ∧ (min (at_ + k) wl.length = at_ → Ls' = Ls)
/-- At the head of a visit's loop: c writes are done. -/
structure VisitR (w0 : World) (P : Nat × Nat × Nat) (gens : List Int) (rt i t : Nat) (C0 : Cont) (wl : List W10) (lv0 : Nat) (Ls : List Lev) (at_ : Nat) (y yr : Nat) (s : Option Addr) (sc : Nat) (st : Option Addr) (stl stc n c : Nat) (W : World) (ρ : Nat → Nat) (W' : World) (Ls' : List Lev) (ρ' : Nat → Nat) : Prop where
  tr : RT w0 P gens rt i t C0 wl lv0 Ls' (min (at_ + c) wl.length) W' ρ'
  ry : ρ' y = yr
  blk : WrB W' y t s wl.length sc (min (at_ + c) wl.length) st stl stc (n + 1)
  ru : RU (yr :: wr0 i rt) W W' ρ ρ'
  evo : Evo Ls Ls'
  same : min (at_ + c) wl.length = at_ → Ls' = Ls
set_option maxRecDepth 100000 in
set_option maxHeartbeats 1000000 in
theorem visit_any {w0 W : World} {P : Nat × Nat × Nat} {gens : List Int} {rt i t lv0 at_ y yr sc stl stc n k : Nat} {s st : Option Addr} {C0 : Cont} {wl : List W10} {Ls : List Lev} {ρ : Nat → Nat}
    (hR : RT w0 P gens rt i t C0 wl lv0 Ls at_ W ρ) (hy : ρ y = yr) (hyr : yr = 7 ∨ yr = 8) (hb : WrB W y t s wl.length sc at_ st stl stc n) (hw : ∀ W, Below w0.heap.size w0 W → WActs W s wl) (hat : at_ ≤ wl.length) (hst : StepK W st stl n k) (hn : n ≤ 1000000000000) (hl : lv0 + wl.length ≤ 500) (hs : CSort C0) (hC : C0.length + wl.length ≤ 50000) :
    Calls Try.prog 12 #[.pointer (some ⟨y, 0, none⟩)] W (VisitEnd w0 P gens rt i t C0 wl lv0 Ls at_ y yr s sc st stl stc n k W ρ) := by
  have hro0 := hR.ro
  have hrt := hR.rt4
  have hyw : yr ∉ wr0 i rt := by unfold wr0; simp; omega
  obtain ⟨c0, c1, c2, c3, c4, c5, f2, f4, f5, hq⟩ := hb.cells
  have hk8 : k ≤ 7 := by
    rcases hst with ⟨_, _, _, x, _, _, _, h1, h2, h3⟩ | ⟨_, h⟩ <;> omega
  have hw1 : IntKind.i64.wrap ((n : Int) + 1) = ((n + 1 : Nat) : Int) := IntWalk.i64_in _ (by omega)
  have hR1 := Lib.hid fun W2 (hu : Below W.heap.size W W2) => (hR.below hu)
  have hbh := Lib.hid hb
  have hyh := Lib.hid hy
  have hRh := Lib.hid hR
  have hstart : Hid (∀ W2, Below W.heap.size W W2 → VisitR w0 P gens rt i t C0 wl lv0 Ls at_ y yr s sc st stl stc n 0 W ρ (W2.setCell ⟨y, 4, none⟩ (.int .i64 ((n + 1 : Nat) : Int))) Ls ρ) := Lib.hid fun W2 hu => by
    have h2 := hR.below hu
    have hb2 : WrB W2 y t s wl.length sc at_ st stl stc n := Below.heap' hu hb
    obtain ⟨h3, h4⟩ := h2.upd hy hyr (W' := W2.setCell ⟨y, 4, none⟩ (.int .i64 ((n + 1 : Nat) : Int))) ((Upd.refl _ _).setCell (by simp) _)
    have hmin : min (at_ + 0) wl.length = at_ := by omega
    refine ⟨by rw [hmin]; exact h3, hy, by rw [hmin]; exact hb2.setN (n + 1), (RU.below hR.ro hu).trans (h4.mono (by simp)), Evo.refl _, fun _ => rfl⟩
  clear hR hb hR1 hRh hro0
  go_enter Try.func12, Try.ntmps12
  rcases hst with ⟨hns, b, off, x, hse, hbw, hx, hx0, hx1, hkx⟩ | ⟨hns, hk0⟩
  · have hA1 : (n : Int) < (stl : Int) := by omega
    have hA0 : (0 : Int) ≤ (n : Int) := by omega
    have hr8 : Int.tmod x 8 = (k : Int) := by rw [Int.tmod_eq_emod_of_nonneg hx0]; exact hkx.symm
    have hr9 : IntKind.u8.wrap (k : Int) = (k : Int) := by simp [IntKind.wrap, IntKind.bits, IntKind.signed]; omega
    have hr10 : IntKind.i64.wrap (k : Int) = (k : Int) := IntWalk.i64_in _ (by omega)
    rw [hse] at c3
    replace hse := Lib.hid hse
    clear hx0 hx1 hkx hns
    go_wp2_with fail
    go_quiet (fail)
    go_wp2_with fail
    go_quiet (fail)
    go_wp2_with fail
    clear c0 c1 c2 c3 c4 c5 f2 f4 f5 hq hA1
    go_loopg [3] k (fun gk v wr => ∃ (c : Nat) (Ls1 : List Lev) (ρ1 : Nat → Nat), gk = k - c ∧ c ≤ k ∧ v = .int .i64 c ∧ VisitR w0 P gens rt i t C0 wl lv0 Ls at_ y yr s sc st stl stc n c W ρ wr Ls1 ρ1)
    case atStart => exact ⟨0, Ls, ρ, rfl, by omega, rfl, hstart.out _ (by first | exact below_drewN (Below.refl _ _) _ | exact below_drewN (below_drewN (Below.refl _ _) _) _)⟩
    case round =>
      clear hstart
      obtain ⟨c, Ls1, ρ1, rfl, hc, rfl, hV⟩ := hrel
      obtain ⟨a1, ha1⟩ : ∃ a1, a1 = min (at_ + c) wl.length := ⟨_, rfl⟩
      have htr := hV.tr
      have hbk := hV.blk
      have hsm := hV.same
      rw [← ha1] at htr hbk hsm
      obtain ⟨c0, c1, c2, c3, c4, c5, f2, f4, f5, hq⟩ := hbk.cells
      have hro := htr.ro
      have hVr := Lib.hid (And.intro hV.ry (And.intro hV.ru hV.evo))
      clear hV
      by_cases hck : c < k
      · by_cases hal : a1 < wl.length
        · obtain ⟨x, hx⟩ : ∃ x, wl[a1]? = some x := ⟨_, List.getElem?_eq_getElem hal⟩
          obtain ⟨bb, oo, es, hbb, hact⟩ := hw wr hro.bel a1 x hx
          rw [es] at c1
          replace es := Lib.hid es
          obtain ⟨g0, g1, g2⟩ := hact
          have hPu := Lib.hid fun W4 ρ4 (h : RT w0 P gens rt i t C0 wl lv0 Ls1 a1 W4 ρ4) hg => h.put hx hg hl hs hC
          have hDe := Lib.hid fun W4 ρ4 (h : RT w0 P gens rt i t C0 wl lv0 Ls1 a1 W4 ρ4) hg => h.del hx hg hl hs hC
          have hstep : Hid (∀ W3, Below wr.heap.size wr W3 → RT w0 P gens rt i t C0 wl lv0 Ls1 a1 (W3.setCell ⟨y, 2, none⟩ (.int .i64 ((a1 : Int) + 1))) ρ1 ∧ RU (yr :: wr0 i rt) W (W3.setCell ⟨y, 2, none⟩ (.int .i64 ((a1 : Int) + 1))) ρ ρ1 ∧ WrB (W3.setCell ⟨y, 2, none⟩ (.int .i64 ((a1 : Int) + 1))) y t s wl.length sc (a1 + 1) st stl stc (n + 1)) := Lib.hid fun W3 hb3 => by
            rw [show (a1 : Int) + 1 = ((a1 + 1 : Nat) : Int) by omega]
            have h2 := htr.below hb3
            have hb2 : WrB W3 y t s wl.length sc a1 st stl stc (n + 1) := Below.heap' hb3 hbk
            obtain ⟨h3, h4⟩ := h2.upd hVr.out.1 hyr (W' := W3.setCell ⟨y, 2, none⟩ (.int .i64 ((a1 + 1 : Nat) : Int))) ((Upd.refl _ _).setCell (by simp) _)
            exact ⟨h3, (hVr.out.2.1.trans ((RU.below (rs := []) hro hb3).mono (by simp))).trans (h4.mono (by simp)), hb2.setAt (a1 + 1)⟩
          have ha2 : a1 + 1 = min (at_ + (c + 1)) wl.length := by omega
          have hend : Hid (∀ W4 W5 Ls5 ρ5, WrB W4 y t s wl.length sc (a1 + 1) st stl stc (n + 1) → RU (yr :: wr0 i rt) W W4 ρ ρ1 → RT w0 P gens rt i t C0 wl lv0 Ls5 (a1 + 1) W5 ρ5 → RU (wr0 i rt) W4 W5 ρ1 ρ5 → Evo Ls1 Ls5 → VisitR w0 P gens rt i t C0 wl lv0 Ls at_ y yr s sc st stl stc n (c + 1) W ρ W5 Ls5 ρ5 ∧ VisitR w0 P gens rt i t C0 wl lv0 Ls at_ y yr s sc st stl stc n (c + 1) W ρ (W5.setCell ⟨y, 5, none⟩ (.bool false)) Ls5 ρ5) := Lib.hid fun W4 W5 Ls5 ρ5 h1 h2 h3 h4 h5 => by
            have hy5 : ρ5 y = yr := by rw [h4.role _ (heap_lt h1)]; exact hVr.out.1
            have hb5 := h1.ru h4 (by rw [hVr.out.1]; exact hyw)
            have hr5 := h2.trans (h4.mono (rs' := yr :: wr0 i rt) (fun r hr => List.mem_cons_of_mem _ hr))
            have hne : min (at_ + (c + 1)) wl.length = at_ → Ls5 = Ls := fun h => by omega
            obtain ⟨h6, h7⟩ := h3.upd hy5 hyr (W' := W5.setCell ⟨y, 5, none⟩ (.bool false)) ((Upd.refl _ _).setCell (by simp) _)
            exact ⟨⟨by rw [← ha2]; exact h3, hy5, by rw [← ha2]; exact hb5, hr5, hVr.out.2.2.trans h5, hne⟩, ⟨by rw [← ha2]; exact h6, hy5, by rw [← ha2]; exact hb5.setF, hr5.trans (h7.mono (by simp)), hVr.out.2.2.trans h5, hne⟩⟩
          have hwc : IntKind.i64.wrap ((c : Int) + 1) = (c : Int) + 1 := IntWalk.i64_in _ (by omega)
          have hwa : IntKind.i64.wrap ((a1 : Int) + 1) = ((a1 + 1 : Nat) : Int) := IntWalk.i64_in _ (by omega)
          have hA2 : (c : Int) < (k : Int) := by omega
          have hA3 : (a1 : Int) < (wl.length : Int) := by omega
          have hA4 : (0 : Int) ≤ (a1 : Int) := by omega
          have hbw3 := block_lt_of_cell g0
          obtain ⟨x1, x2, x3⟩ := x
          simp only at g0 g1 g2 hPu hDe
          replace ha2 := Lib.hid ha2
          replace ha1 := Lib.hid ha1
          have hbkh := Lib.hid hbk
          clear hx htr hbk hsm hro hw
          go_wp2_with fail
          go_quiet (fail)
          go_wp2_with fail
          -- <<reg7
          have hBel := (below_drewN (Below.refl wr.heap.size wr) nq).drew
          refine wp_region_held_drew (S := fun w' => Below wr.heap.size wr w') rfl hBel (fun hHeld => ?_)
          refine takeL 0 (by simp only [List.getElem?_toArray, List.getElem?_cons_zero]; rfl) hHeld ?_
          refine ⟨by kernel_rfl, by kernel_rfl, by kernel_rfl, ?_, fun _ _ _ h => h, Or.inl ⟨by rfl, ?_⟩, ?_⟩
          rotate_left 1
          · intro w hSw; (try dsimp only at hSw); go_simp; first | done | with_reducible rfl
          try simp only [Act.put, List.setIfInBounds_toArray, List.set_cons_zero, List.set_cons_succ]
          refine takeL 1 (by simp only [List.getElem?_toArray, List.getElem?_cons_succ, List.getElem?_cons_zero]; rfl) hHeld ?_
          refine ⟨by kernel_rfl, by kernel_rfl, by kernel_rfl, ?_, fun _ _ _ h => h, Or.inl ⟨by rfl, ?_⟩, ?_⟩
          rotate_left 1
          · intro w hSw; (try dsimp only at hSw); go_simp; first | done | with_reducible rfl
          try simp only [Act.put, List.setIfInBounds_toArray, List.set_cons_zero, List.set_cons_succ]
          refine takeL 2 (by simp only [List.getElem?_toArray, List.getElem?_cons_succ, List.getElem?_cons_zero]; rfl) hHeld ?_
          refine ⟨by kernel_rfl, by kernel_rfl, by kernel_rfl, ?_, fun _ _ _ h => h, Or.inl ⟨by rfl, ?_⟩, ?_⟩
          rotate_left 1
          · intro w hSw; (try dsimp only at hSw); go_simp; first | done | with_reducible rfl
          try simp only [Act.put, List.setIfInBounds_toArray, List.set_cons_zero, List.set_cons_succ]
          refine takeL 3 (by simp only [List.getElem?_toArray, List.getElem?_cons_succ, List.getElem?_cons_zero]; rfl) hHeld ?_
          refine ⟨by kernel_rfl, by kernel_rfl, by kernel_rfl, ?_, fun _ _ _ h => h, Or.inl ⟨by rfl, ?_⟩, ?_⟩
          rotate_left 1
          · intro w hSw; (try dsimp only at hSw); have i1 := keep hSw c1; go_simp; first | done | with_reducible rfl
          try simp only [Act.put, List.setIfInBounds_toArray, List.set_cons_zero, List.set_cons_succ]
          refine takeL 4 (by simp only [List.getElem?_toArray, List.getElem?_cons_succ, List.getElem?_cons_zero]; rfl) hHeld ?_
          refine ⟨by kernel_rfl, by kernel_rfl, by kernel_rfl, ?_, fun _ _ _ h => h, Or.inl ⟨by rfl, ?_⟩, ?_⟩
          rotate_left 1
          · intro w hSw; (try dsimp only at hSw); go_simp; first | done | with_reducible rfl
          try simp only [Act.put, List.setIfInBounds_toArray, List.set_cons_zero, List.set_cons_succ]
          refine takeL 5 (by simp only [List.getElem?_toArray, List.getElem?_cons_succ, List.getElem?_cons_zero]; rfl) hHeld ?_
          refine ⟨by kernel_rfl, by kernel_rfl, by kernel_rfl, ?_, fun _ _ _ h => h, Or.inl ⟨by rfl, ?_⟩, ?_⟩
          rotate_left 1
          · intro w hSw; (try dsimp only at hSw); go_simp; first | done | with_reducible rfl
          try simp only [Act.put, List.setIfInBounds_toArray, List.set_cons_zero, List.set_cons_succ]
          refine takeL 6 (by simp only [List.getElem?_toArray, List.getElem?_cons_succ, List.getElem?_cons_zero]; rfl) hHeld ?_
          refine ⟨by kernel_rfl, by kernel_rfl, by kernel_rfl, ?_, fun _ _ _ h => h, Or.inl ⟨by rfl, ?_⟩, ?_⟩
          rotate_left 1
          · intro w hSw; (try dsimp only at hSw); go_simp; first | done | with_reducible rfl
          try simp only [Act.put, List.setIfInBounds_toArray, List.set_cons_zero, List.set_cons_succ]
          refine takeL 7 (by simp only [List.getElem?_toArray, List.getElem?_cons_succ, List.getElem?_cons_zero]; rfl) hHeld ?_
          refine ⟨by kernel_rfl, by kernel_rfl, by kernel_rfl, ?_, fun _ _ _ h => h, Or.inl ⟨by rfl, ?_⟩, ?_⟩
          rotate_left 1
          · intro w hSw; (try dsimp only at hSw); have i2 := keep hSw c2; go_simp; first | done | with_reducible rfl
          try simp only [Act.put, List.setIfInBounds_toArray, List.set_cons_zero, List.set_cons_succ]
          refine takeL 8 (by simp only [List.getElem?_toArray, List.getElem?_cons_succ, List.getElem?_cons_zero]; rfl) hHeld ?_
          refine ⟨by kernel_rfl, by kernel_rfl, by kernel_rfl, ?_, fun _ _ _ h => h, Or.inl ⟨by rfl, ?_⟩, ?_⟩
          rotate_left 1
          · intro w hSw; (try dsimp only at hSw); go_simp; first | done | with_reducible rfl
          try simp only [Act.put, List.setIfInBounds_toArray, List.set_cons_zero, List.set_cons_succ]
          refine takeL 9 (by simp only [List.getElem?_toArray, List.getElem?_cons_succ, List.getElem?_cons_zero]; rfl) hHeld ?_
          refine ⟨by kernel_rfl, by kernel_rfl, by kernel_rfl, ?_, fun _ _ _ h => h, Or.inl ⟨by rfl, ?_⟩, ?_⟩
          rotate_left 1
          · intro w hSw; (try dsimp only at hSw); have i3 := keep hSw g0; have i4 := keep hSw g1; have i5 := keep hSw g2; go_simp; first | done | with_reducible rfl
          try simp only [Act.put, List.setIfInBounds_toArray, List.set_cons_zero, List.set_cons_succ]
          generalize (wr.drewN nq).drew = Wa at *
          refine readyL 10 (by kernel_rfl) (by simp only [List.getElem?_toArray, List.getElem?_cons_succ, List.getElem?_cons_zero]; rfl) ?_
          intro K hK
          go_simp
          have hS1 := hHeld.alloc hHeld.size (.cells #[.string ⟨#[]⟩, .string ⟨#[]⟩, .bool false] 26)
          have hbx := heap_alloc_new Wa (.cells #[.string ⟨#[]⟩, .string ⟨#[]⟩, .bool false] 26)
          have hlx := hHeld.size
          generalize Wa.alloc (.cells #[.string ⟨#[]⟩, .string ⟨#[]⟩, .bool false] 26) = Wb at *
          generalize Wa.heap.size = bx at *
          refine hK.out _ _ hS1 (fun _ => ?_)
          clear hHeld hBel hK K
          have hHeld := hS1
          clear hS1
          try simp only [Act.put, List.setIfInBounds_toArray, List.set_cons_zero, List.set_cons_succ]
          refine readyL 11 (by kernel_rfl) (by simp only [List.getElem?_toArray, List.getElem?_cons_succ, List.getElem?_cons_zero]; rfl) ?_
          intro K hK
          have b0 : Wb.cell? ⟨bx, 0, none⟩ = some (.string ⟨#[]⟩) := by rw [cell_of_heap hbx]; rfl
          have b1 : Wb.cell? ⟨bx, 1, none⟩ = some (.string ⟨#[]⟩) := by rw [cell_of_heap hbx]; rfl
          have b2 : Wb.cell? ⟨bx, 2, none⟩ = some (.bool false) := by rw [cell_of_heap hbx]; rfl
          have f6 : Wb.frozen? ⟨bx, 0, none⟩ = false := frozen_of_heap hbx _
          have f7 : Wb.frozen? ⟨bx, 1, none⟩ = false := frozen_of_heap hbx _
          have f8 : Wb.frozen? ⟨bx, 2, none⟩ = false := frozen_of_heap hbx _
          have hbl := heap_lt hbx
          go_simp
          go_wp2_with fail
          have hux := ((((Upd.refl [bx] Wb).setCell (p := ⟨bx, 0, none⟩) (by simp) (.string x1)).setCell (p := ⟨bx, 1, none⟩) (by simp) (.string x2)).setCell (p := ⟨bx, 2, none⟩) (by simp) (.bool x3))
          have hS1 := hHeld.trans (hux.below hHeld.size (by simpa using hlx))
          have hbx2 : (((Wb.setCell ⟨bx, 0, none⟩ (.string x1)).setCell ⟨bx, 1, none⟩ (.string x2)).setCell ⟨bx, 2, none⟩ (.bool x3)).heap[bx]? = some (.cells #[.string x1, .string x2, .bool x3] 26) := by rw [heap_self, heap_self, heap_self, hbx]; rfl
          generalize ((Wb.setCell ⟨bx, 0, none⟩ (.string x1)).setCell ⟨bx, 1, none⟩ (.string x2)).setCell ⟨bx, 2, none⟩ (.bool x3) = Wc at *
          refine hK.out _ _ hS1 (fun _ => ?_)
          clear hHeld hK K b0 b1 b2 f6 f7 f8 hbl hux hbx
          try simp only [Act.put, List.setIfInBounds_toArray, List.set_cons_zero, List.set_cons_succ]
          refine wpAnyH_done (by kernel_rfl) ?_ _
          simp only [Exit.then]
          -- >>reg7
          obtain ⟨s1, s2, s3⟩ := hstep.out Wc hS1
          have hne : bx ≠ y := by omega
          have hyc : WrB Wc y t s wl.length sc a1 st stl stc (n + 1) := Below.heap' hS1 hbkh.out
          have hux2 : Upd [y] Wc (Wc.setCell ⟨y, 2, none⟩ (.int .i64 ((a1 : Int) + 1))) := (Upd.refl _ _).setCell (by simp) _
          have hbx4 := hux2.heap hbx2 (by simpa using hne)
          obtain ⟨_, _, e2, _, _, _, f6, _, _, hqc⟩ := hyc.cells
          clear c0 c1 c2 c3 c4 c5 f2 f4 f5 g0 g1 g2 hq hyc hux2 hbx2 hS1 hbw3
          replace s1 := Lib.hid s1
          replace s2 := Lib.hid s2
          replace s3 := Lib.hid s3
          replace hbx4 := Lib.hid hbx4
          go_upto_region 8 with fail
          go_upto_region 9 with fail
          generalize Wc.setCell ⟨y, 2, none⟩ (.int .i64 ((a1 : Int) + 1)) = W4 at *
          have b0 : W4.cell? ⟨bx, 0, none⟩ = some (.string x1) := by rw [cell_of_heap hbx4.out]; rfl
          have b1 : W4.cell? ⟨bx, 1, none⟩ = some (.string x2) := by rw [cell_of_heap hbx4.out]; rfl
          have b2 : W4.cell? ⟨bx, 2, none⟩ = some (.bool x3) := by rw [cell_of_heap hbx4.out]; rfl
          obtain ⟨d0, _, _, _, _, _, _, _, _, hq4⟩ := s3.out.cells
          have hqb := heap_lt hbx4.out
          clear e2 f6 hqc hbx4 hstep hbkh
          have hE := Lib.hid fun W5 Ls5 ρ5 (h3 : RT w0 P gens rt i t C0 wl lv0 Ls5 (a1 + 1) W5 ρ5) (h4 : RU (wr0 i rt) W4.drew W5 ρ1 ρ5) (h5 : Evo Ls1 Ls5) => hend.out W4.drew W5 Ls5 ρ5 (Below.heap' (Below.refl W4.heap.size W4).drew s3.out) (s2.out.trans ((RU.below (rs := []) s1.out.ro (Below.refl W4.heap.size W4).drew).mono (by simp))) h3 h4 h5
          have hS1 := Lib.hid (s1.out.below (Below.refl W4.heap.size W4).drew)
          clear hend
          cases x3 with
          | true =>
            go_wp2_with fail
            go_region_with (go_at_call 26; refine (hDe.out _ _ hS1.out trivial).mono ?_; rintro z w5 ⟨old, had, rfl, Ls5, ρ5, t1, t2, t3⟩; have hV5 := Lib.hid (hE.out w5 Ls5 ρ5 t1 t2 t3).1; clear t1 t2 t3)
            all_goals
              go_wp2_with fail
              go_roundg (k - (c + 1))
              case rel => exact ⟨c + 1, Ls5, ρ5, rfl, by omega, by go_num, hV5.out⟩
              case measure => omega
          | false =>
            go_wp2_with fail
            go_region_with (go_at_call 25; refine (hPu.out _ _ hS1.out trivial).mono ?_; rintro z w5 ⟨old, had, rfl, Ls5, ρ5, t1, t2, t3⟩; have hV5 := Lib.hid (hE.out w5 Ls5 ρ5 t1 t2 t3); clear t1 t2 t3)
            all_goals
              obtain ⟨_, _, _, _, _, e5, _, _, f5, hq5⟩ := hV5.out.1.blk.cells
              go_wp2_with fail
              go_roundg (k - (c + 1))
              case rel => exact ⟨c + 1, Ls5, ρ5, rfl, by omega, by go_num, hV5.out.2⟩
              case measure => omega
        · have hE : Hid (∀ W2, Below wr.heap.size wr W2 → VisitEnd w0 P gens rt i t C0 wl lv0 Ls at_ y yr s sc st stl stc n k W ρ (.returned (.tuple #[])) W2) := Lib.hid fun W2 hb2 => by
            have hm : min (at_ + k) wl.length = a1 := by omega
            exact ⟨rfl, Ls1, ρ1, by rw [hm]; exact htr.below hb2, hVr.out.1, by rw [hm]; exact Below.heap' hb2 hbk, hVr.out.2.1.trans ((RU.below (rs := []) hro hb2).mono (by simp)), hVr.out.2.2, by rw [hm]; exact hsm⟩
          have hA2 : (c : Int) < (k : Int) := by omega
          have hA3 : ¬ (a1 : Int) < (wl.length : Int) := by omega
          replace ha1 := Lib.hid ha1
          clear htr hbk hsm hro hw
          go_wp2_with fail
          go_quiet (fail)
          go_wp2_with fail
          go_end0
          exact hE.out _ (below_drewN (Below.refl _ _) _)
      · have hE : Hid (∀ W2, Below wr.heap.size wr W2 → VisitEnd w0 P gens rt i t C0 wl lv0 Ls at_ y yr s sc st stl stc n k W ρ (.returned (.tuple #[])) W2) := Lib.hid fun W2 hb2 => by
          have hm : min (at_ + k) wl.length = a1 := by rw [ha1]; congr 1; omega
          exact ⟨rfl, Ls1, ρ1, by rw [hm]; exact htr.below hb2, hVr.out.1, by rw [hm]; exact Below.heap' hb2 hbk, hVr.out.2.1.trans ((RU.below (rs := []) hro hb2).mono (by simp)), hVr.out.2.2, by rw [hm]; exact hsm⟩
        have hA2 : ¬ (c : Int) < (k : Int) := by omega
        replace ha1 := Lib.hid ha1
        clear htr hbk hsm hro hw
        go_wp2_with fail
        go_quiet (fail)
        go_wp2_with fail
        go_end0
        exact hE.out _ (below_drewN (Below.refl _ _) _)
  · subst hk0
    have hA1 : ¬ (n : Int) < (stl : Int) := by omega
    have hfin : Hid (∀ W', VisitR w0 P gens rt i t C0 wl lv0 Ls at_ y yr s sc st stl stc n 0 W ρ W' Ls ρ → VisitEnd w0 P gens rt i t C0 wl lv0 Ls at_ y yr s sc st stl stc n 0 W ρ (.returned (.tuple #[])) W') := Lib.hid fun W' h => ⟨rfl, Ls, ρ, h.tr, h.ry, h.blk, h.ru, h.evo, h.same⟩
    clear hns hw hs hC hl
    go_wp2_with fail
    go_quiet (fail)
    go_wp2_with fail
    go_loopg [3] 1 (fun gk v wr => gk = 1 ∧ v = .int .i64 0 ∧ VisitR w0 P gens rt i t C0 wl lv0 Ls at_ y yr s sc st stl stc n 0 W ρ wr Ls ρ)
    case atStart => exact ⟨rfl, rfl, hstart.out _ (below_drewN (Below.refl _ _) _)⟩
    case round =>
      obtain ⟨rfl, rfl, hV⟩ := hrel
      have hE := Lib.hid fun W2 (hb : Below wr.heap.size wr W2) => hfin.out W2 (⟨hV.tr.below hb, hV.ry, Below.heap' hb hV.blk, hV.ru.trans ((RU.below (rs := []) hV.tr.ro hb).mono (by simp)), hV.evo, hV.same⟩)
      clear hV hstart hfin c0 c1 c2 c3 c4 c5 f2 f4 f5 hq
      go_wp2_with fail
      go_quiet (fail)
      go_wp2_with fail
      go_end0
      exact hE.out _ (below_drewN (Below.refl _ _) _)
end Go.Proofs.Ytlhobbfncjjeaaa
