/- The walk of the helper awake of the laws of layer 4. -/
import Derived.Test.YtidiefcgepllmaaEpochWorld
namespace Go.Proofs.Ytidiefcgepllmaa
open Go.RowKit
/-- A counter in a block of the law's own. -/
def Jcnt (base nb : Nat) (x : Int) (O : List Nat) (w : World) : Prop := O = [nb] ∧ base ≤ nb ∧ w.heap[nb]? = some (.cells #[.int .i64 x] 3)
def Rcnt (_ : Ret) (x : Int) (g : EpG) (x' : Int) (g' : EpG) (l : List Ret) : Prop := x' = wrap64 (x + 1) ∧ g' = g ∧ l = []
theorem awake1_any (nb : Nat) (x : Int) (w : World) (h : w.heap[nb]? = some (.cells #[.int .i64 x] 3)) :
    Calls Try.prog 32 #[.pointer (some ⟨nb, 0, none⟩)] w fun z w' => z = .returned (.tuple #[]) ∧ w' = w.setCell ⟨nb, 0, none⟩ (.int .i64 (wrap64 (x + 1))) := by
  have c0 : w.cell? ⟨nb, 0, none⟩ = some (.int .i64 x) := by rw [cell_of_heap h]; rfl
  have f0 : w.frozen? ⟨nb, 0, none⟩ = false := frozen_of_heap h 0
  go_enter Try.func32, Try.ntmps32
  go_wp2
  go_end0
  exact ⟨rfl, rfl⟩
theorem clo_awake (base nb e m : Nat) : Clo (Jcnt base nb) Rcnt base e m (fun r => r.f = 32 ∧ r.caps = #[.pointer (some ⟨nb, 0, none⟩)]) 100 (fun _ _ _ => True) where
  down := fun _ _ _ _ => trivial
  okr := fun _ _ _ _ _ _ _ _ _ => trivial
  stab := by
    rintro x O w w' T ⟨rfl, h1, h2⟩ hu hT
    exact ⟨rfl, h1, hu.heap h2 (fun hh => hT _ hh (by simp))⟩
  lt := by
    rintro x O w ⟨rfl, h1, h2⟩ k hk
    simp at hk
    subst hk
    exact ⟨h1, heap_lt h2⟩
  app := by
    rintro r x g x' g' l ⟨_, _, rfl⟩
    simp
  enter := by
    rintro r ⟨h, _⟩
    rw [h]
    exact enters_of Try.func32 (by kernel_rfl) rfl
  run := by
    rintro r ⟨h1, h2⟩ x g O v L w hE _ _ _
    rw [h1, h2]
    obtain ⟨hO, hb, hh⟩ := hE.rest
    refine (awake1_any nb x w hh).mono ?_
    rintro z w' ⟨rfl, rfl⟩
    have hu : Upd [nb] w (w.setCell ⟨nb, 0, none⟩ (.int .i64 (wrap64 (x + 1)))) := (Upd.refl _ _).setCell (p := ⟨nb, 0, none⟩) (by simp) _
    subst hO
    refine ⟨rfl, v, [nb], wrap64 (x + 1), g, [], ⟨?_, ⟨rfl, hb, ?_⟩, hE.de, hE.dm, hE.dv⟩, ⟨rfl, rfl, rfl⟩, hu.mono (by simp [foot]), fun k hk => .inl hk⟩
    · rw [List.append_nil]
      exact hE.ep.upd hu hE.de hE.dm hE.dv
    · rw [heap_set_same hh]; rfl
/-- One more function is left, and it is ripe. -/
theorem Coll.inv_nil {σ : Type} {R : Ret → σ → EpG → σ → EpG → List Ret → Prop} {x0 x : σ} {g0 g : EpG} {kept later : List Ret} {n : Nat} (h : Coll R x0 g0 [] x g kept later n) : x = x0 ∧ g = g0 ∧ kept = [] ∧ later = [] ∧ n = 0 := by
  generalize hxs : ([] : List Ret) = xs at h
  cases h with
  | nil => exact ⟨rfl, rfl, rfl, rfl, rfl⟩
  | skip _ _ => simp at hxs
  | run _ _ _ => simp at hxs
theorem Coll.inv {σ : Type} {R : Ret → σ → EpG → σ → EpG → List Ret → Prop} {x0 x : σ} {g0 g : EpG} {xs kept later : List Ret} {r : Ret} {n : Nat} (h : Coll R x0 g0 (xs ++ [r]) x g kept later n) :
    (∃ kept', Coll R x0 g0 xs x g kept' later n ∧ ¬ (∀ y, y ∈ g.S → r.at' < y.t) ∧ kept = kept' ++ [r]) ∨
    ∃ x1 g1 later' app n', Coll R x0 g0 xs x1 g1 kept later' n' ∧ (∀ y, y ∈ g1.S → r.at' < y.t) ∧ R r x1 g1 x g app ∧ later = later' ++ app ∧ n = n' + 1 := by
  generalize hxs : xs ++ [r] = ys at h
  cases h with
  | nil => simp at hxs
  | skip h1 h2 =>
    obtain ⟨rfl, h3⟩ := List.append_inj' hxs rfl
    simp at h3
    subst h3
    exact .inl ⟨_, h1, h2, rfl⟩
  | run h1 h2 h3 =>
    obtain ⟨rfl, h4⟩ := List.append_inj' hxs rfl
    simp at h4
    subst h4
    exact .inr ⟨_, _, _, _, _, h1, h2, h3, rfl, rfl⟩
theorem ew_cnt {base base' nb e m : Nat} {w0 w : World} {x : Int} {g : EpG} {b : Bool} {L : List Ret} (h : EW (Jcnt base nb) base' e m w0 w x g b L) : w.cell? ⟨nb, 0, none⟩ = some (.int .i64 x) := by
  obtain ⟨v, O, h⟩ := h
  rw [cell_of_heap h.ej.rest.2.2]
  rfl
theorem wrap_one : wrap64 ((0 : Int) + 1) = 1 := by kernel_rfl
set_option maxRecDepth 100000 in
set_option maxHeartbeats 1000000 in
theorem awake4_any (w : World) : Calls Try.prog 18 #[] w fun z w' => z = .returned (.bool true) ∧ Below w.heap.size w w' := by
  have hmf : ∀ (fn : Fn) (first cap : Array Value) (w : World), (Instr.makeFunc fn first cap).run Try.prog w = .ok (.func fn first cap) w := fun _ _ _ _ => rfl
  have hnot : ∀ (x : Bool) (w : World), (Op.unary .not (.bool x)).run Try.prog w = .ok (.bool (!x)) w := fun _ _ => rfl
  go_enter Try.func18, Try.ntmps18
  go_wp2_with fail
  refine (epNew_any w.heap.size w).mono ?_
  rintro z w1 ⟨rfl, hb1, hE1, hs1⟩
  have hB2 : Below w1.heap.size w1 (w1.alloc (.cells #[.int .i64 0] 3)) := (Below.refl _ _).alloc (Nat.le_refl _) _
  have hC := clo_awake w.heap.size w1.heap.size (w.heap.size + 1) w.heap.size
  have h2 : EW (Jcnt w.heap.size w1.heap.size) w.heap.size (w.heap.size + 1) w.heap.size w (w1.alloc (.cells #[.int .i64 0] 3)) 0 ⟨[], 0, 0⟩ false [] := by
    refine ⟨.slice none 0 0, [w1.heap.size], ⟨⟨hE1.below hB2, ⟨rfl, by omega, heap_alloc_new _ _⟩, by simp; omega, by simp; omega, by simp [Value.ownBlock]⟩, hb1.trans (hB2.mono hb1.size), ?_, Nat.le_trans hb1.size hB2.size⟩⟩
    intro k hk
    simp [foot, Value.ownBlock] at hk
    omega
  replace h2 := Lib.hid h2
  replace hC := Lib.hid hC
  clear hE1 hb1 hB2 hs1
  go_wp2_with fail
  generalize w1.heap.size = nb at *
  refine (EW.Pin_yes hC.out h2.out 1 (by simp) (by simp)).mono ?_
  rintro z w3 ⟨rfl, h3⟩
  replace h3 := Lib.hid h3
  clear h2
  go_wp2_with fail
  refine (EW.Retire hC.out h3.out 32 #[.pointer (some ⟨nb, 0, none⟩)] (by simp)).mono ?_
  rintro z w4 ⟨rfl, h4⟩
  replace h4 := Lib.hid h4
  clear h3
  go_wp2_with fail
  refine (EW.Collect hC.out h4.out (by simp) (by simp) (by omega) trivial).mono ?_
  rintro z w5 ⟨n, kept, later, x', g', rfl, hcoll, h5⟩
  rcases Coll.inv (xs := []) hcoll with ⟨kept', hc, hnr, rfl⟩ | ⟨x1, g1, later', app, n', hc, hr, _⟩
  · obtain ⟨rfl, rfl, rfl, rfl, rfl⟩ := hc.inv_nil
    replace h5 := Lib.hid h5
    clear h4 hcoll hc hnr
    have c5 := ew_cnt h5.out
    go_wp2_with fail
    refine (EW.Unpin hC.out h5.out 1 true (by simp)).mono ?_
    rintro z w6 ⟨rfl, h6⟩
    have h6' : EW (Jcnt w.heap.size nb) w.heap.size (w.heap.size + 1) w.heap.size w w6 0 ⟨[], 0 + 1, 0 + 1⟩ false ([] ++ [⟨32, #[.pointer (some ⟨nb, 0, none⟩)], 1⟩] ++ []) := h6
    replace h6 := Lib.hid h6'
    clear h5 h6' c5
    go_wp2_with fail
    refine (EW.Collect hC.out h6.out (by simp) (by simp) (by omega) trivial).mono ?_
    rintro z w7 ⟨n, kept, later, x', g', rfl, hcoll, h7⟩
    rcases Coll.inv (xs := []) hcoll with ⟨kept', hc, hnr, rfl⟩ | ⟨x1, g1, later', app, n', hc, hr, hR, rfl, rfl⟩
    · obtain ⟨rfl, rfl, rfl, rfl, rfl⟩ := hc.inv_nil
      exact absurd (by simp) hnr
    · obtain ⟨rfl, rfl, rfl, rfl, rfl⟩ := hc.inv_nil
      obtain ⟨rfl, rfl, rfl⟩ := hR
      rw [wrap_one] at h7
      have c7 := ew_cnt h7
      replace h7 := Lib.hid h7
      clear h6 hcoll hc hr
      go_wp2_with fail
      refine (EW.Waiting hC.out h7.out).mono ?_
      rintro z w8 ⟨rfl, h8⟩
      replace h8 := Lib.hid h8
      clear h7 c7
      go_wp2_with fail
      refine (EW.Pinned hC.out h8.out (by simp) (by simp)).mono ?_
      rintro z w9 ⟨a, c, rfl, _, h9, _⟩
      have h9' := h9.bel
      clear h8 h9
      go_wp2_with fail
      go_ret
      exact ⟨by simp [rising], h9'⟩
  · obtain ⟨rfl, rfl, rfl, rfl, rfl⟩ := hc.inv_nil
    have := hr ⟨1, 1, 0⟩ (by simp)
    simp at this
end Go.Proofs.Ytidiefcgepllmaa
