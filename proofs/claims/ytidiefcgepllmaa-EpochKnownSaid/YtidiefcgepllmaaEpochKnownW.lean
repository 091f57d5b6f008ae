/- The walk of the law EpochKnown. -/
import Derived.Test.YtidiefcgepllmaaEpochAwake
namespace Go.Proofs.Ytidiefcgepllmaa
open Go.RowKit
/-- A text in a block of the law's own. -/
def Jstr (base sb : Nat) (x : ByteArray) (O : List Nat) (w : World) : Prop := O = [sb] ∧ base ≤ sb ∧ w.heap[sb]? = some (.cells #[.string x] 9)
def letter (F : FuncId) : UInt8 := if F = 9 then 97 else if F = 10 then 98 else 99
def Rstr (r : Ret) (x : ByteArray) (g : EpG) (x' : ByteArray) (g' : EpG) (l : List Ret) : Prop := x' = x ++ ⟨#[letter r.f]⟩ ∧ g' = g ∧ l = []
def ApK (sb : Nat) (r : Ret) : Prop := r.caps = #[.pointer (some ⟨sb, 0, none⟩)] ∧ (r.f = 9 ∨ r.f = 10 ∨ r.f = 11)
theorem known1_any (sb : Nat) (x : ByteArray) (w : World) (hx : x.size ≤ 1000) (h : w.heap[sb]? = some (.cells #[.string x] 9)) :
    Calls Try.prog 9 #[.pointer (some ⟨sb, 0, none⟩)] w fun z w' => z = .returned (.tuple #[]) ∧ w' = w.setCell ⟨sb, 0, none⟩ (.string (x ++ ⟨#[97]⟩)) := by
  have c0 : w.cell? ⟨sb, 0, none⟩ = some (.string x) := by rw [cell_of_heap h]; rfl
  have f0 : w.frozen? ⟨sb, 0, none⟩ = false := frozen_of_heap h 0
  have hz : ¬ 9223372036854775807 < x.size + 1 := by omega
  go_enter Try.func9, Try.ntmps9
  go_wp2
  go_end0
  exact ⟨rfl, rfl⟩
theorem known2_any (sb : Nat) (x : ByteArray) (w : World) (hx : x.size ≤ 1000) (h : w.heap[sb]? = some (.cells #[.string x] 9)) :
    Calls Try.prog 10 #[.pointer (some ⟨sb, 0, none⟩)] w fun z w' => z = .returned (.tuple #[]) ∧ w' = w.setCell ⟨sb, 0, none⟩ (.string (x ++ ⟨#[98]⟩)) := by
  have c0 : w.cell? ⟨sb, 0, none⟩ = some (.string x) := by rw [cell_of_heap h]; rfl
  have f0 : w.frozen? ⟨sb, 0, none⟩ = false := frozen_of_heap h 0
  have hz : ¬ 9223372036854775807 < x.size + 1 := by omega
  go_enter Try.func10, Try.ntmps10
  go_wp2
  go_end0
  exact ⟨rfl, rfl⟩
theorem known3_any (sb : Nat) (x : ByteArray) (w : World) (hx : x.size ≤ 1000) (h : w.heap[sb]? = some (.cells #[.string x] 9)) :
    Calls Try.prog 11 #[.pointer (some ⟨sb, 0, none⟩)] w fun z w' => z = .returned (.tuple #[]) ∧ w' = w.setCell ⟨sb, 0, none⟩ (.string (x ++ ⟨#[99]⟩)) := by
  have c0 : w.cell? ⟨sb, 0, none⟩ = some (.string x) := by rw [cell_of_heap h]; rfl
  have f0 : w.frozen? ⟨sb, 0, none⟩ = false := frozen_of_heap h 0
  have hz : ¬ 9223372036854775807 < x.size + 1 := by omega
  go_enter Try.func11, Try.ntmps11
  go_wp2
  go_end0
  exact ⟨rfl, rfl⟩
theorem knownf_any (F : FuncId) (hF : F = 9 ∨ F = 10 ∨ F = 11) (sb : Nat) (x : ByteArray) (w : World) (hx : x.size ≤ 1000) (h : w.heap[sb]? = some (.cells #[.string x] 9)) :
    Calls Try.prog F #[.pointer (some ⟨sb, 0, none⟩)] w fun z w' => z = .returned (.tuple #[]) ∧ w' = w.setCell ⟨sb, 0, none⟩ (.string (x ++ ⟨#[letter F]⟩)) := by
  rcases hF with rfl | rfl | rfl
  · exact known1_any sb x w hx h
  · exact known2_any sb x w hx h
  · exact known3_any sb x w hx h
theorem clo_known (base sb e m : Nat) : Clo (Jstr base sb) Rstr base e m (ApK sb) 100 (fun k x => x.size + k ≤ 1000) where
  down := fun _ _ h => by omega
  okr := by
    rintro r k x g x' g' l ⟨rfl, _, _⟩ h
    rw [ByteArray.size_append]
    show x.size + 1 + k ≤ 1000
    omega
  stab := by
    rintro x O w w' T ⟨rfl, h1, h2⟩ hu hT
    exact ⟨rfl, h1, hu.heap h2 (fun hh => hT _ hh (by simp))⟩
  lt := by
    rintro x O w ⟨rfl, h1, h2⟩ k hk
    simp at hk
    subst hk
    exact ⟨h1, heap_lt h2⟩
  app := by
    rintro r x g x' g' l ⟨_, _, rfl⟩
    simp
  enter := by
    rintro r ⟨_, h | h | h⟩ <;> rw [h]
    · exact enters_of Try.func9 (by kernel_rfl) rfl
    · exact enters_of Try.func10 (by kernel_rfl) rfl
    · exact enters_of Try.func11 (by kernel_rfl) rfl
  run := by
    rintro r ⟨h1, h2⟩ x g O v L w hE _ _ ⟨k, hk⟩
    rw [h1]
    obtain ⟨hO, hb, hh⟩ := hE.rest
    refine (knownf_any r.f h2 sb x w (by omega) hh).mono ?_
    rintro z w' ⟨rfl, rfl⟩
    have hu : Upd [sb] w (w.setCell ⟨sb, 0, none⟩ (.string (x ++ ⟨#[letter r.f]⟩))) := (Upd.refl _ _).setCell (p := ⟨sb, 0, none⟩) (by simp) _
    subst hO
    refine ⟨rfl, v, [sb], x ++ ⟨#[letter r.f]⟩, g, [], ⟨?_, ⟨rfl, hb, ?_⟩, hE.de, hE.dm, hE.dv⟩, ⟨rfl, rfl, rfl⟩, hu.mono (by simp [foot]), fun k hk => .inl hk⟩
    · rw [List.append_nil]
      exact hE.ep.upd hu hE.de hE.dm hE.dv
    · rw [heap_set_same hh]; rfl
theorem ew_str {base base' sb e m : Nat} {w0 w : World} {x : ByteArray} {g : EpG} {b : Bool} {L : List Ret} (h : EW (Jstr base sb) base' e m w0 w x g b L) : w.cell? ⟨sb, 0, none⟩ = some (.string x) := by
  obtain ⟨v, O, h⟩ := h
  rw [cell_of_heap h.ej.rest.2.2]
  rfl
/-- One of those that were left has its turn. -/
def stepC {σ : Type} (eff : Ret → σ → σ) (S : List Pn) (s : σ × List Ret × Nat) (r : Ret) : σ × List Ret × Nat := if (∀ y, y ∈ S → r.at' < y.t) then (eff r s.1, s.2.1, s.2.2 + 1) else (s.1, s.2.1 ++ [r], s.2.2)
theorem Coll.eqn {σ : Type} (eff : Ret → σ → σ) {R : Ret → σ → EpG → σ → EpG → List Ret → Prop} (hR : ∀ r x g x' g' l, R r x g x' g' l → x' = eff r x ∧ g' = g ∧ l = []) {x0 x : σ} {g0 g : EpG} {xs kept later : List Ret} {n : Nat} (h : Coll R x0 g0 xs x g kept later n) :
    (x, kept, n) = xs.foldl (stepC eff g0.S) (x0, [], 0) ∧ g = g0 ∧ later = [] := by
  induction h with
  | nil => exact ⟨rfl, rfl, rfl⟩
  | skip _ h2 ih =>
    obtain ⟨h3, rfl, rfl⟩ := ih
    rw [List.foldl_append, ← h3]
    refine ⟨?_, rfl, rfl⟩
    show _ = stepC eff _ _ _
    unfold stepC
    rw [if_neg h2]
  | run _ h2 h3 ih =>
    obtain ⟨h4, rfl, rfl⟩ := ih
    obtain ⟨rfl, rfl, rfl⟩ := hR _ _ _ _ _ _ h3
    rw [List.foldl_append, ← h4]
    refine ⟨?_, rfl, rfl⟩
    show _ = stepC eff _ _ _
    unfold stepC
    rw [if_pos h2]
def effK (r : Ret) (x : ByteArray) : ByteArray := x ++ ⟨#[letter r.f]⟩
theorem epNil_pin (k : Int) (w : World) : Calls Try.prog 12 #[.pointer none, .int .i64 k] w fun x w' => x = .returned (.bool false) ∧ w = w' := by
  go_enter Try.func12, Try.ntmps12
  go_wp2
  go_ret
  exact ⟨rfl, rfl⟩
theorem epNil_unpin (k : Int) (w : World) : Calls Try.prog 15 #[.pointer none, .int .i64 k] w fun x w' => x = .returned (.bool false) ∧ w = w' := by
  go_enter Try.func15, Try.ntmps15
  go_wp2
  go_ret
  exact ⟨rfl, rfl⟩
theorem epNil_pinned (w : World) : Calls Try.prog 17 #[.pointer none] w fun x w' => x = .returned (.slice none 0 0) ∧ w = w' := by
  go_enter Try.func17, Try.ntmps17
  go_wp2
  go_ret
  exact ⟨rfl, rfl⟩
theorem epNil_waiting (w : World) : Calls Try.prog 16 #[.pointer none] w fun x w' => x = .returned (.int .i64 0) ∧ w = w' := by
  go_enter Try.func16, Try.ntmps16
  go_wp2
  go_ret
  exact ⟨rfl, rfl⟩
theorem epNil_retire (v : Value) (w : World) : Calls Try.prog 13 #[.pointer none, v] w fun x w' => x = .returned (.bool false) ∧ w = w' := by
  go_enter Try.func13, Try.ntmps13
  go_wp2
  go_ret
  exact ⟨rfl, rfl⟩
theorem epNil_collect (w : World) : Calls Try.prog 14 #[.pointer none] w fun x w' => x = .returned (.int .i64 0) ∧ Below w.heap.size w w' := by
  go_enter_defers Try.func14, Try.ntmps14
  go_wp2
  have hfin : Below w.heap.size w (w.alloc (.cells #[.pointer none] 22)) := (Below.refl _ _).alloc (Nat.le_refl _) _
  simp [bodyPostD, Leaves, results, Try.results14, go_sem]
  exact hfin
set_option maxRecDepth 100000 in
set_option maxHeartbeats 4000000 in
theorem knownLaw_walk (w0 : World) : Calls Try.prog 3 #[] w0 fun z w' => z = .returned (.bool true) ∧ Below w0.heap.size w0 w' := by
  have hmf : ∀ (fn : Fn) (first cap : Array Value) (w : World), (Instr.makeFunc fn first cap).run Try.prog w = .ok (.func fn first cap) w := fun _ _ _ _ => rfl
  go_enter Try.func3, Try.ntmps3
  go_wp2_with fail
  refine (epNew_any w0.heap.size w0).mono ?_
  rintro z w ⟨rfl, hb1, hE1, hs1⟩
  have hB2 : Below w.heap.size w (w.alloc (.cells #[.string ⟨#[]⟩] 9)) := (Below.refl _ _).alloc (Nat.le_refl _) _
  have hC := clo_known w0.heap.size w.heap.size (w0.heap.size + 1) w0.heap.size
  have h : EW (Jstr w0.heap.size w.heap.size) w0.heap.size (w0.heap.size + 1) w0.heap.size w0 (w.alloc (.cells #[.string ⟨#[]⟩] 9)) ⟨#[]⟩ ⟨[], 0, 0⟩ false [] := by
    refine ⟨.slice none 0 0, [w.heap.size], ⟨⟨hE1.below hB2, ⟨rfl, by omega, heap_alloc_new _ _⟩, by simp; omega, by simp; omega, by simp [Value.ownBlock]⟩, hb1.trans (hB2.mono hb1.size), ?_, Nat.le_trans hb1.size hB2.size⟩⟩
    intro k hk
    simp [foot, Value.ownBlock] at hk
    omega
  replace h := Lib.hid h
  replace hC := Lib.hid hC
  clear hE1 hb1 hB2 hs1
  go_wp2_with fail
  generalize hsb : w.heap.size = sb at *
  generalize hee : w0.heap.size + 1 = e at *
  clear hee hsb
  go_wp2_with fail
  refine (EW.Pin_yes hC.out h.out 1 (by simp) (by simp)).mono ?_
  rintro z w1 ⟨rfl, h⟩
  have h' : EW (Jstr w0.heap.size sb) w0.heap.size e w0.heap.size w0 w1 ⟨#[]⟩ ⟨[⟨1, 1, 0⟩], 1, 1⟩ false [] := h
  replace h := Lib.hid h'
  clear h'
  go_wp2_with fail
  refine (EW.Retire hC.out h.out 9 #[.pointer (some ⟨sb, 0, none⟩)] (by simp)).mono ?_
  rintro z w2 ⟨rfl, h⟩
  have h' : EW (Jstr w0.heap.size sb) w0.heap.size e w0.heap.size w0 w2 ⟨#[]⟩ ⟨[⟨1, 1, 0⟩], 1, 1⟩ false [⟨9, #[.pointer (some ⟨sb, 0, none⟩)], 1⟩] := h
  replace h := Lib.hid h'
  clear h'
  go_wp2_with fail
  refine (EW.Pin_yes hC.out h.out 2 (by simp) (by simp)).mono ?_
  rintro z w3 ⟨rfl, h⟩
  have h' : EW (Jstr w0.heap.size sb) w0.heap.size e w0.heap.size w0 w3 ⟨#[]⟩ ⟨[⟨1, 1, 0⟩, ⟨2, 2, 1⟩], 2, 2⟩ false [⟨9, #[.pointer (some ⟨sb, 0, none⟩)], 1⟩] := h
  replace h := Lib.hid h'
  clear h'
  go_wp2_with fail
  refine (EW.Retire hC.out h.out 10 #[.pointer (some ⟨sb, 0, none⟩)] (by simp)).mono ?_
  rintro z w4 ⟨rfl, h⟩
  have h' : EW (Jstr w0.heap.size sb) w0.heap.size e w0.heap.size w0 w4 ⟨#[]⟩ ⟨[⟨1, 1, 0⟩, ⟨2, 2, 1⟩], 2, 2⟩ false [⟨9, #[.pointer (some ⟨sb, 0, none⟩)], 1⟩, ⟨10, #[.pointer (some ⟨sb, 0, none⟩)], 2⟩] := h
  replace h := Lib.hid h'
  clear h'
  go_wp2_with fail
  refine (EW.Collect hC.out h.out (by simp [ApK]) (by simp) (by omega) (Nat.le_of_ble_eq_true rfl)).mono ?_
  rintro z w5 ⟨n, kept, later, x', g', rfl, hco, h⟩
  obtain ⟨hf, rfl, rfl⟩ := hco.eqn effK (fun _ _ _ _ _ _ hh => hh)
  have hv : (x', kept, n) = (⟨#[]⟩, [⟨9, #[.pointer (some ⟨sb, 0, none⟩)], 1⟩, ⟨10, #[.pointer (some ⟨sb, 0, none⟩)], 2⟩], 0) := hf.trans (by simp [stepC]; try rfl)
  injection hv with hv1 hv2
  injection hv2 with hv2 hv3
  subst hv1 hv2 hv3
  clear hf hco
  have h' : EW (Jstr w0.heap.size sb) w0.heap.size e w0.heap.size w0 w5 ⟨#[]⟩ ⟨[⟨1, 1, 0⟩, ⟨2, 2, 1⟩], 2, 2⟩ false [⟨9, #[.pointer (some ⟨sb, 0, none⟩)], 1⟩, ⟨10, #[.pointer (some ⟨sb, 0, none⟩)], 2⟩] := h
  replace h := Lib.hid h'
  clear h'
  go_wp2_with fail
  refine (EW.Unpin hC.out h.out 1 true (by simp)).mono ?_
  rintro z w6 ⟨rfl, h⟩
  have h' : EW (Jstr w0.heap.size sb) w0.heap.size e w0.heap.size w0 w6 ⟨#[]⟩ ⟨[⟨2, 2, 1⟩], 2, 2⟩ false [⟨9, #[.pointer (some ⟨sb, 0, none⟩)], 1⟩, ⟨10, #[.pointer (some ⟨sb, 0, none⟩)], 2⟩] := h
  replace h := Lib.hid h'
  clear h'
  go_wp2_with fail
  refine (EW.Pin_yes hC.out h.out 1 (by simp) (by simp)).mono ?_
  rintro z w7 ⟨rfl, h⟩
  have h' : EW (Jstr w0.heap.size sb) w0.heap.size e w0.heap.size w0 w7 ⟨#[]⟩ ⟨[⟨2, 2, 1⟩, ⟨1, 3, 2⟩], 3, 3⟩ false [⟨9, #[.pointer (some ⟨sb, 0, none⟩)], 1⟩, ⟨10, #[.pointer (some ⟨sb, 0, none⟩)], 2⟩] := h
  replace h := Lib.hid h'
  clear h'
  go_wp2_with fail
  refine (EW.Collect hC.out h.out (by simp [ApK]) (by simp) (by omega) (Nat.le_of_ble_eq_true rfl)).mono ?_
  rintro z w8 ⟨n, kept, later, x', g', rfl, hco, h⟩
  obtain ⟨hf, rfl, rfl⟩ := hco.eqn effK (fun _ _ _ _ _ _ hh => hh)
  have hv : (x', kept, n) = (⟨#[97]⟩, [⟨10, #[.pointer (some ⟨sb, 0, none⟩)], 2⟩], 1) := hf.trans (by simp [stepC]; try rfl)
  injection hv with hv1 hv2
  injection hv2 with hv2 hv3
  subst hv1 hv2 hv3
  clear hf hco
  have h' : EW (Jstr w0.heap.size sb) w0.heap.size e w0.heap.size w0 w8 ⟨#[97]⟩ ⟨[⟨2, 2, 1⟩, ⟨1, 3, 2⟩], 3, 3⟩ false [⟨10, #[.pointer (some ⟨sb, 0, none⟩)], 2⟩] := h
  replace h := Lib.hid h'
  clear h'
  go_wp2_with fail
  refine (EW.Waiting hC.out h.out).mono ?_
  rintro z w9 ⟨rfl, h⟩
  have h' : EW (Jstr w0.heap.size sb) w0.heap.size e w0.heap.size w0 w9 ⟨#[97]⟩ ⟨[⟨2, 2, 1⟩, ⟨1, 3, 2⟩], 3, 3⟩ false [⟨10, #[.pointer (some ⟨sb, 0, none⟩)], 2⟩] := h
  have cs := ew_str h'
  replace h := Lib.hid h'
  clear h'
  go_wp2_with fail
  refine (EW.Unpin hC.out h.out 2 true (by simp)).mono ?_
  rintro z w10 ⟨rfl, h⟩
  have h' : EW (Jstr w0.heap.size sb) w0.heap.size e w0.heap.size w0 w10 ⟨#[97]⟩ ⟨[⟨1, 3, 2⟩], 3, 3⟩ false [⟨10, #[.pointer (some ⟨sb, 0, none⟩)], 2⟩] := h
  replace h := Lib.hid h'
  clear h'
  go_wp2_with fail
  refine (EW.Collect hC.out h.out (by simp [ApK]) (by simp) (by omega) (Nat.le_of_ble_eq_true rfl)).mono ?_
  rintro z w11 ⟨n, kept, later, x', g', rfl, hco, h⟩
  obtain ⟨hf, rfl, rfl⟩ := hco.eqn effK (fun _ _ _ _ _ _ hh => hh)
  have hv : (x', kept, n) = (⟨#[97, 98]⟩, [], 1) := hf.trans (by simp [stepC]; try rfl)
  injection hv with hv1 hv2
  injection hv2 with hv2 hv3
  subst hv1 hv2 hv3
  clear hf hco
  have h' : EW (Jstr w0.heap.size sb) w0.heap.size e w0.heap.size w0 w11 ⟨#[97, 98]⟩ ⟨[⟨1, 3, 2⟩], 3, 3⟩ false [] := h
  replace h := Lib.hid h'
  clear h'
  go_wp2_with fail
  refine (EW.Retire hC.out h.out 11 #[.pointer (some ⟨sb, 0, none⟩)] (by simp)).mono ?_
  rintro z w12 ⟨rfl, h⟩
  have h' : EW (Jstr w0.heap.size sb) w0.heap.size e w0.heap.size w0 w12 ⟨#[97, 98]⟩ ⟨[⟨1, 3, 2⟩], 3, 3⟩ false [⟨11, #[.pointer (some ⟨sb, 0, none⟩)], 3⟩] := h
  replace h := Lib.hid h'
  clear h'
  go_wp2_with fail
  refine (EW.Collect hC.out h.out (by simp [ApK]) (by simp) (by omega) (Nat.le_of_ble_eq_true rfl)).mono ?_
  rintro z w13 ⟨n, kept, later, x', g', rfl, hco, h⟩
  obtain ⟨hf, rfl, rfl⟩ := hco.eqn effK (fun _ _ _ _ _ _ hh => hh)
  have hv : (x', kept, n) = (⟨#[97, 98]⟩, [⟨11, #[.pointer (some ⟨sb, 0, none⟩)], 3⟩], 0) := hf.trans (by simp [stepC]; try rfl)
  injection hv with hv1 hv2
  injection hv2 with hv2 hv3
  subst hv1 hv2 hv3
  clear hf hco
  have h' : EW (Jstr w0.heap.size sb) w0.heap.size e w0.heap.size w0 w13 ⟨#[97, 98]⟩ ⟨[⟨1, 3, 2⟩], 3, 3⟩ false [⟨11, #[.pointer (some ⟨sb, 0, none⟩)], 3⟩] := h
  replace h := Lib.hid h'
  clear h'
  go_wp2_with fail
  refine (EW.Unpin hC.out h.out 1 true (by simp)).mono ?_
  rintro z w14 ⟨rfl, h⟩
  have h' : EW (Jstr w0.heap.size sb) w0.heap.size e w0.heap.size w0 w14 ⟨#[97, 98]⟩ ⟨[], 3, 3⟩ false [⟨11, #[.pointer (some ⟨sb, 0, none⟩)], 3⟩] := h
  replace h := Lib.hid h'
  clear h'
  go_wp2_with fail
  refine (EW.Collect hC.out h.out (by simp [ApK]) (by simp) (by omega) (Nat.le_of_ble_eq_true rfl)).mono ?_
  rintro z w15 ⟨n, kept, later, x', g', rfl, hco, h⟩
  obtain ⟨hf, rfl, rfl⟩ := hco.eqn effK (fun _ _ _ _ _ _ hh => hh)
  have hv : (x', kept, n) = (⟨#[97, 98, 99]⟩, [], 1) := hf.trans (by simp [stepC]; try rfl)
  injection hv with hv1 hv2
  injection hv2 with hv2 hv3
  subst hv1 hv2 hv3
  clear hf hco
  have h' : EW (Jstr w0.heap.size sb) w0.heap.size e w0.heap.size w0 w15 ⟨#[97, 98, 99]⟩ ⟨[], 3, 3⟩ false [] := h
  replace h := Lib.hid h'
  clear h'
  go_wp2_with fail
  refine (EW.Unpin hC.out h.out 1 false (by simp)).mono ?_
  rintro z w16 ⟨rfl, h⟩
  have h' : EW (Jstr w0.heap.size sb) w0.heap.size e w0.heap.size w0 w16 ⟨#[97, 98, 99]⟩ ⟨[], 3, 3⟩ false [] := h
  replace h := Lib.hid h'
  clear h'
  go_wp2_with fail
  refine (EW.Pinned hC.out h.out (by simp) (by simp)).mono ?_
  rintro z w17 ⟨pa, pc, rfl, _, h, _⟩
  rw [show (rising (⟨[], 3, 3⟩ : EpG).S).length = 0 from by simp [rising]]
  have h' : EW (Jstr w0.heap.size sb) w0.heap.size e w0.heap.size w0 w17 ⟨#[97, 98, 99]⟩ ⟨[], 3, 3⟩ false [] := h
  have cs := ew_str h'
  replace h := Lib.hid h'
  clear h'
  have hbel := h.out.bel
  clear h hC
  go_wp2_with fail
  refine (awake4_any _).mono ?_
  rintro z w30 ⟨rfl, hb30⟩
  have hB30 := Lib.hid (hbel.trans (hb30.mono hbel.size))
  clear hbel hb30
  go_wp2_with fail
  refine (epNil_pin _ _).mono ?_
  rintro z w31 ⟨rfl, rfl⟩
  go_wp2_with fail
  refine (epNil_unpin _ _).mono ?_
  rintro z w32 ⟨rfl, rfl⟩
  go_wp2_with fail
  refine (epNil_pinned _).mono ?_
  rintro z w33 ⟨rfl, rfl⟩
  go_wp2_with fail
  refine (epNil_retire _ _).mono ?_
  rintro z w34 ⟨rfl, rfl⟩
  go_wp2_with fail
  refine (epNil_collect _).mono ?_
  rintro z w35 ⟨rfl, hb35⟩
  have hB35 := Lib.hid (hB30.out.trans (hb35.mono hB30.out.size))
  clear hb35 hB30
  go_wp2_with fail
  refine (epNil_waiting _).mono ?_
  rintro z w36 ⟨rfl, rfl⟩
  go_wp2_with fail
  go_ret
  exact ⟨rfl, hB35.out⟩
end Go.Proofs.Ytidiefcgepllmaa
