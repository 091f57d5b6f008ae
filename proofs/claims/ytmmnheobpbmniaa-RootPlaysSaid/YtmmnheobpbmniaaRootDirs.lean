/- Directories, roots of a directory, and their contracts. -/
import Derived.Test.YtmmnheobpbmniaaRootApi
import Derived.Test.YtmmnheobpbmniaaRootOfNew1
namespace Go.Proofs.Ytmmnheobpbmniaa
open Go.RowKit
def dsel (x0 x1 x2 x3 : Option Addr) : Nat → Option Addr
  | 0 => x0
  | 1 => x1
  | 2 => x2
  | 3 => x3
  | _ => none
set_option maxHeartbeats 1000000 in
theorem at_any (x0 x1 x2 x3 : Option Addr) (i : Nat) (hi : i ≤ 4) (w : World) :
    Calls Try.prog 11 #[.agg #[.pointer x0, .pointer x1, .pointer x2, .pointer x3], .int .i64 i] w fun e w' => e = .returned (.pointer (dsel x0 x1 x2 x3 i)) ∧ Below w.heap.size w w' := by
  have h : i = 0 ∨ i = 1 ∨ i = 2 ∨ i = 3 ∨ i = 4 := by omega
  rcases h with rfl | rfl | rfl | rfl | rfl
  all_goals
    go_enter Try.func11, Try.ntmps11
    go_wp2
    go_ret
    exact ⟨rfl, (Below.refl _ _).alloc (Nat.le_refl _) _⟩
theorem dirNew_any (x : Option Addr) (w : World) :
    Calls Try.prog 22 #[.pointer x] w fun e w' => ∃ c, e = .returned (.pointer (some ⟨w.heap.size + 2, 0, none⟩)) ∧ Below w.heap.size w w' ∧ w'.heap.size = w.heap.size + 3 ∧ w'.heap[w.heap.size + 2]? = some (.cells c 78) := by
  go_enter Try.func22, Try.ntmps22
  go_wp2
  go_ret
  refine ⟨#[.slice (some ⟨w.heap.size, 0, none⟩) 1 1, .slice (some ⟨w.heap.size + 1, 0, none⟩) 1 1], rfl, ((((Below.refl _ _).alloc (Nat.le_refl _) _).alloc (by simp) _).alloc (by simp; omega) _), by simp, ?_⟩
  have := heap_alloc_new ((w.alloc (.cells #[.string ⟨#[]⟩] 9)).alloc (.cells #[.pointer x] 70)) (.cells #[.slice (some ⟨w.heap.size, 0, none⟩) 1 1, .slice (some ⟨w.heap.size + 1, 0, none⟩) 1 1] 78)
  rw [show ((w.alloc (.cells #[.string ⟨#[]⟩] 9)).alloc (.cells #[.pointer x] 70)).heap.size = w.heap.size + 2 by simp] at this
  exact this
structure DI (B : Nat) (w W : World) (cs : Array Value) (ds : List (Nat × Array Value)) : Prop where
  bel : Below B w W
  siz : B + 2 ≤ W.heap.size
  l : W.heap[B + 1]? = some (.cells cs 25)
  r : W.heap[B]? = some (.cells #[.pointer none, .pointer none, .pointer none, .pointer none] 25)
  ds : ∀ x, x ∈ ds → B + 2 ≤ x.1 ∧ W.heap[x.1]? = some (.cells x.2 78)
theorem DI.step {B : Nat} {w W w1 : World} {cs c : Array Value} {ds : List (Nat × Array Value)} (h : DI B w W cs ds) (j : Nat) (hb : Below W.heap.size W w1) (hs : w1.heap.size = W.heap.size + 3) (hc : w1.heap[W.heap.size + 2]? = some (.cells c 78)) :
    DI B w (w1.setCell ⟨B + 1, j, none⟩ (.pointer (some ⟨W.heap.size + 2, 0, none⟩))) (cs.setIfInBounds j (.pointer (some ⟨W.heap.size + 2, 0, none⟩))) (ds ++ [(W.heap.size + 2, c)]) := by
  have hsz := h.siz
  refine ⟨(h.bel.trans (hb.mono (by omega))).setCell (p := ⟨B + 1, j, none⟩) (by show B ≤ B + 1; omega) _, ?_, heap_set_same (Below.heap' hb h.l) _ _, ?_, ?_⟩
  · simp [World.setCell]
    omega
  · rw [heap_set_other _ _ (by show B ≠ B + 1; omega)]
    exact Below.heap' hb h.r
  · intro x hx
    rcases List.mem_append.1 hx with hx | hx
    · obtain ⟨h1, h2⟩ := h.ds x hx
      exact ⟨h1, by rw [heap_set_other _ _ (by show x.1 ≠ B + 1; omega)]; exact Below.heap' hb h2⟩
    · obtain rfl := List.mem_singleton.1 hx
      exact ⟨by dsimp only; omega, by rw [heap_set_other _ _ (by show W.heap.size + 2 ≠ B + 1; omega)]; exact hc⟩
def DirsEnd (w : World) (e : Ending) (w' : World) : Prop :=
  ∃ d0 d1 d2 d3 c0 c1, e = .returned (.agg #[.pointer (some ⟨d0, 0, none⟩), .pointer (some ⟨d1, 0, none⟩), .pointer (some ⟨d2, 0, none⟩), .pointer (some ⟨d3, 0, none⟩)]) ∧ d0 ≠ d1 ∧ w'.heap[d0]? = some (.cells c0 78) ∧ w'.heap[d1]? = some (.cells c1 78) ∧ Below w.heap.size w w'
set_option maxRecDepth 100000 in
set_option maxHeartbeats 2000000 in
theorem dirs_any (w : World) : Calls Try.prog 9 #[] w (DirsEnd w) := by
  go_enter Try.func9, Try.ntmps9
  go_wp2_with fail
  refine wp_loop_rounds 5 ?_
  rw [rounds_succ]
  go_wp2_with fail
  obtain ⟨B, hB⟩ : ∃ B, w.heap.size = B := ⟨_, rfl⟩
  rw [hB]
  have D0 : DI B w ((w.alloc (.cells #[.pointer none, .pointer none, .pointer none, .pointer none] 25)).alloc (.cells #[.pointer none, .pointer none, .pointer none, .pointer none] 25)) #[.pointer none, .pointer none, .pointer none, .pointer none] [] := by
    subst hB
    refine ⟨((Below.refl _ _).alloc (Nat.le_refl _) _).alloc (by simp) _, by simp, ?_, heap_alloc_old _ (heap_alloc_new _ _), by simp⟩
    have := heap_alloc_new (w.alloc (.cells #[.pointer none, .pointer none, .pointer none, .pointer none] 25)) (.cells #[.pointer none, .pointer none, .pointer none, .pointer none] 25)
    simpa using this
  replace D0 := Lib.hid D0
  have HB := Lib.hid hB
  clear hB
  generalize (w.alloc (.cells #[.pointer none, .pointer none, .pointer none, .pointer none] 25)).alloc (.cells #[.pointer none, .pointer none, .pointer none, .pointer none] 25) = W0 at *
  refine (dirNew_any none W0).mono ?_
  rintro e w0 ⟨c0, rfl, hb0, hs0, hc0⟩
  have k0 := (D0.out.l.trans rfl : W0.heap[B + 1]? = _)
  have g0 : w0.cell? ⟨B + 1, 0, none⟩ = some (.pointer none) := by rw [cell_of_heap (Below.heap' hb0 D0.out.l)]; rfl
  have f0 : w0.frozen? ⟨B + 1, 0, none⟩ = false := frozen_of_heap (Below.heap' hb0 D0.out.l) _
  have D1 := Lib.hid (D0.out.step 0 hb0 hs0 hc0)
  have z0 := Lib.hid hs0
  clear hb0 hs0 hc0 k0
  go_wp2_with fail
  rw [rounds_succ]
  go_wp2_with fail
  clear g0 f0
  generalize w0.setCell ⟨B + 1, 0, none⟩ (.pointer (some ⟨W0.heap.size + 2, 0, none⟩)) = W1 at *
  refine (dirNew_any none W1).mono ?_
  rintro e w1 ⟨c1, rfl, hb1, hs1, hc1⟩
  have k1 := (D1.out.l.trans rfl : W1.heap[B + 1]? = _)
  have g1 : w1.cell? ⟨B + 1, 1, none⟩ = some (.pointer none) := by rw [cell_of_heap (Below.heap' hb1 D1.out.l)]; rfl
  have f1 : w1.frozen? ⟨B + 1, 1, none⟩ = false := frozen_of_heap (Below.heap' hb1 D1.out.l) _
  have D2 := Lib.hid (D1.out.step 1 hb1 hs1 hc1)
  have z1 := Lib.hid hs1
  clear hb1 hs1 hc1 k1
  go_wp2_with fail
  rw [rounds_succ]
  go_wp2_with fail
  clear g1 f1
  generalize w1.setCell ⟨B + 1, 1, none⟩ (.pointer (some ⟨W1.heap.size + 2, 0, none⟩)) = W2 at *
  refine (dirNew_any none W2).mono ?_
  rintro e w2 ⟨c2, rfl, hb2, hs2, hc2⟩
  have k2 := (D2.out.l.trans rfl : W2.heap[B + 1]? = _)
  have g2 : w2.cell? ⟨B + 1, 2, none⟩ = some (.pointer none) := by rw [cell_of_heap (Below.heap' hb2 D2.out.l)]; rfl
  have f2 : w2.frozen? ⟨B + 1, 2, none⟩ = false := frozen_of_heap (Below.heap' hb2 D2.out.l) _
  have D3 := Lib.hid (D2.out.step 2 hb2 hs2 hc2)
  have z2 := Lib.hid hs2
  clear hb2 hs2 hc2 k2
  go_wp2_with fail
  rw [rounds_succ]
  go_wp2_with fail
  clear g2 f2
  generalize w2.setCell ⟨B + 1, 2, none⟩ (.pointer (some ⟨W2.heap.size + 2, 0, none⟩)) = W3 at *
  refine (dirNew_any none W3).mono ?_
  rintro e w3 ⟨c3, rfl, hb3, hs3, hc3⟩
  have k3 := (D3.out.l.trans rfl : W3.heap[B + 1]? = _)
  have g3 : w3.cell? ⟨B + 1, 3, none⟩ = some (.pointer none) := by rw [cell_of_heap (Below.heap' hb3 D3.out.l)]; rfl
  have f3 : w3.frozen? ⟨B + 1, 3, none⟩ = false := frozen_of_heap (Below.heap' hb3 D3.out.l) _
  have D4 := Lib.hid (D3.out.step 3 hb3 hs3 hc3)
  have z3 := Lib.hid hs3
  clear hb3 hs3 hc3 k3
  go_wp2_with fail
  clear g3 f3
  generalize w3.setCell ⟨B + 1, 3, none⟩ (.pointer (some ⟨W3.heap.size + 2, 0, none⟩)) = W4 at *
  have hl : W4.heap[B + 1]? = some (.cells #[.pointer (some ⟨W0.heap.size + 2, 0, none⟩), .pointer (some ⟨W1.heap.size + 2, 0, none⟩), .pointer (some ⟨W2.heap.size + 2, 0, none⟩), .pointer (some ⟨W3.heap.size + 2, 0, none⟩)] 25) := D4.out.l
  have hr := D4.out.r
  have m0 : W4.cell? ⟨B + 1, 0, none⟩ = some (.pointer (some ⟨W0.heap.size + 2, 0, none⟩)) := by rw [cell_of_heap hl]; rfl
  have m1 : W4.cell? ⟨B + 1, 1, none⟩ = some (.pointer (some ⟨W1.heap.size + 2, 0, none⟩)) := by rw [cell_of_heap hl]; rfl
  have m2 : W4.cell? ⟨B + 1, 2, none⟩ = some (.pointer (some ⟨W2.heap.size + 2, 0, none⟩)) := by rw [cell_of_heap hl]; rfl
  have m3 : W4.cell? ⟨B + 1, 3, none⟩ = some (.pointer (some ⟨W3.heap.size + 2, 0, none⟩)) := by rw [cell_of_heap hl]; rfl
  have r0 : W4.cell? ⟨B, 0, none⟩ = some (.pointer none) := by rw [cell_of_heap hr]; rfl
  have r1 : W4.cell? ⟨B, 1, none⟩ = some (.pointer none) := by rw [cell_of_heap hr]; rfl
  have r2 : W4.cell? ⟨B, 2, none⟩ = some (.pointer none) := by rw [cell_of_heap hr]; rfl
  have r3 : W4.cell? ⟨B, 3, none⟩ = some (.pointer none) := by rw [cell_of_heap hr]; rfl
  have rf := frozen_of_heap hr
  have q0 := D4.out.ds (W0.heap.size + 2, c0) (by simp)
  have q1 := D4.out.ds (W1.heap.size + 2, c1) (by simp)
  have hne : W0.heap.size + 2 ≠ W1.heap.size + 2 := by
    have h1 := D1.out.ds (W0.heap.size + 2, c0) (by simp)
    have h2 := heap_lt h1.2
    dsimp only at h2
    omega
  have HE := Lib.hid (show DirsEnd w (.returned (.agg #[.pointer (some ⟨W0.heap.size + 2, 0, none⟩), .pointer (some ⟨W1.heap.size + 2, 0, none⟩), .pointer (some ⟨W2.heap.size + 2, 0, none⟩), .pointer (some ⟨W3.heap.size + 2, 0, none⟩)])) ((((W4.setCell ⟨B, 0, none⟩ (.pointer (some ⟨W0.heap.size + 2, 0, none⟩))).setCell ⟨B, 1, none⟩ (.pointer (some ⟨W1.heap.size + 2, 0, none⟩))).setCell ⟨B, 2, none⟩ (.pointer (some ⟨W2.heap.size + 2, 0, none⟩))).setCell ⟨B, 3, none⟩ (.pointer (some ⟨W3.heap.size + 2, 0, none⟩))) from by
    refine ⟨_, _, _, _, c0, c1, rfl, hne, ?_, ?_, ?_⟩
    · rw [heap_set_other _ _ (by show W0.heap.size + 2 ≠ B; omega), heap_set_other _ _ (by show W0.heap.size + 2 ≠ B; omega), heap_set_other _ _ (by show W0.heap.size + 2 ≠ B; omega), heap_set_other _ _ (by show W0.heap.size + 2 ≠ B; omega)]
      exact q0.2
    · rw [heap_set_other _ _ (by show W1.heap.size + 2 ≠ B; omega), heap_set_other _ _ (by show W1.heap.size + 2 ≠ B; omega), heap_set_other _ _ (by show W1.heap.size + 2 ≠ B; omega), heap_set_other _ _ (by show W1.heap.size + 2 ≠ B; omega)]
      exact q1.2
    · rw [HB.out]
      exact (((D4.out.bel.setCell (p := ⟨B, 0, none⟩) (Nat.le_refl _) _).setCell (p := ⟨B, 1, none⟩) (Nat.le_refl _) _).setCell (p := ⟨B, 2, none⟩) (Nat.le_refl _) _).setCell (p := ⟨B, 3, none⟩) (Nat.le_refl _) _)
  have hf : ((((W4.setCell ⟨B, 0, none⟩ (.pointer (some ⟨W0.heap.size + 2, 0, none⟩))).setCell ⟨B, 1, none⟩ (.pointer (some ⟨W1.heap.size + 2, 0, none⟩))).setCell ⟨B, 2, none⟩ (.pointer (some ⟨W2.heap.size + 2, 0, none⟩))).setCell ⟨B, 3, none⟩ (.pointer (some ⟨W3.heap.size + 2, 0, none⟩))).heap[B]? = some (.cells #[.pointer (some ⟨W0.heap.size + 2, 0, none⟩), .pointer (some ⟨W1.heap.size + 2, 0, none⟩), .pointer (some ⟨W2.heap.size + 2, 0, none⟩), .pointer (some ⟨W3.heap.size + 2, 0, none⟩)] 25) := by
    rw [heap_set_same (heap_set_same (heap_set_same (heap_set_same hr _ _) _ _) _ _) _ _]
    rfl
  replace hf := Lib.hid hf
  clear hl hr q0 q1 hne z0 z1 z2 z3 D0 D1 D2 D3 D4
  generalize W0.heap.size + 2 = e0 at *
  generalize W1.heap.size + 2 = e1 at *
  generalize W2.heap.size + 2 = e2 at *
  generalize W3.heap.size + 2 = e3 at *
  rw [rounds_succ]
  go_wp2_with fail
  generalize (((W4.setCell ⟨B, 0, none⟩ (.pointer (some ⟨e0, 0, none⟩))).setCell ⟨B, 1, none⟩ (.pointer (some ⟨e1, 0, none⟩))).setCell ⟨B, 2, none⟩ (.pointer (some ⟨e2, 0, none⟩))).setCell ⟨B, 3, none⟩ (.pointer (some ⟨e3, 0, none⟩)) = W5 at *
  clear m0 m1 m2 m3 r0 r1 r2 r3 rf
  have n0 : W5.cell? ⟨B, 0, none⟩ = some (.pointer (some ⟨e0, 0, none⟩)) := by rw [cell_of_heap hf.out]; rfl
  have n1 : W5.cell? ⟨B, 1, none⟩ = some (.pointer (some ⟨e1, 0, none⟩)) := by rw [cell_of_heap hf.out]; rfl
  have n2 : W5.cell? ⟨B, 2, none⟩ = some (.pointer (some ⟨e2, 0, none⟩)) := by rw [cell_of_heap hf.out]; rfl
  have n3 : W5.cell? ⟨B, 3, none⟩ = some (.pointer (some ⟨e3, 0, none⟩)) := by rw [cell_of_heap hf.out]; rfl
  exact bodyPost_ret (v := .agg #[.pointer (some ⟨e0, 0, none⟩), .pointer (some ⟨e1, 0, none⟩), .pointer (some ⟨e2, 0, none⟩), .pointer (some ⟨e3, 0, none⟩)]) (by simp [results, Try.results9, go_sem, n0, n1, n2, n3]) rfl HE.out
/-- A root of a directory: what it asks, what it has. -/
def askN (c : Nat) : Value := .func (.func 23) #[] #[.pointer (some ⟨c, 0, none⟩)]
def Tru : World → Prop := fun _ => True
theorem Tru.stb (r : Nat) : Stb r Tru := fun _ _ _ _ => trivial
def RN (c r : Nat) (d : Option Addr) (v : Int) (w : World) : Prop :=
  c ≠ r ∧ ((RootRaw w r 0 0 (askN c) none ∧ w.cell? ⟨c, 0, none⟩ = some (.pointer d) ∧ v = 0) ∨ Done r (askN c) d v Tru w)
theorem new1_any (c : Nat) (d : Option Addr) (w : World) (h : w.cell? ⟨c, 0, none⟩ = some (.pointer d)) : Calls Try.prog 23 #[.pointer (some ⟨c, 0, none⟩)] w fun e w' => e = .returned (.pointer d) ∧ w = w' := by
  go_enter Try.func23, Try.ntmps23
  go_wp2
  go_ret
  exact ⟨rfl, rfl⟩
theorem askN_is {c r : Nat} (d : Option Addr) (h : c ≠ r) : AskIs r 23 #[.pointer (some ⟨c, 0, none⟩)] d [] (fun w => w.cell? ⟨c, 0, none⟩ = some (.pointer d)) Tru :=
  ⟨fun w hw => (new1_any c d w hw).mono fun e w' ⟨he, hw'⟩ => ⟨he, by subst hw'; exact Upd.refl _ _, trivial⟩, fun w w' hw hu => hu.cell hw (by simp; exact h), Tru.stb r, by simp⟩
theorem RN.load {c r : Nat} {d : Option Addr} {v : Int} {w : World} (h : RN c r d v w) : Calls Try.prog 24 #[.pointer (some ⟨r, 0, none⟩)] w (LoadEnd r (askN c) d v [r] Tru w) := by
  obtain ⟨h0, h | ⟨s, h1, h2, h3⟩⟩ := h
  · obtain ⟨h1, h2, rfl⟩ := h
    exact RNew.load_first r _ d [] _ Tru none w (askN_is d h0) h1 (by simp) h2
  · exact RNew.load_done r s _ d v [r] Tru w (Tru.stb r) h1 h2 h3
theorem Lazy_any (F : FuncId) (caps : Array Value) (w : World) : Calls Try.prog 12 #[.func (.func F) #[] caps] w fun e w' => e = .returned (.pointer (some ⟨w.heap.size, 0, none⟩)) ∧ RootRaw w' w.heap.size 0 0 (.func (.func F) #[] caps) none ∧ Below w.heap.size w w' := by
  have hne : ∀ w, (binOp .eql 31 (.func (.func F) #[] caps) .nilFunc).run Try.prog w = .ok (.bool false) w := fun w => run_eql_func_nil w 31 _ _ _ Try.underlying31
  go_enter Try.func12, Try.ntmps12
  go_wp2_with fail
  go_ret
  exact ⟨rfl, heap_alloc_new _ _, (Below.refl _ _).alloc (Nat.le_refl _) _⟩
theorem New_any (d : Option Addr) (w : World) : Calls Try.prog 10 #[.pointer d] w fun e w' => ∃ c r, e = .returned (.pointer (some ⟨r, 0, none⟩)) ∧ RN c r d 0 w' ∧ Below w.heap.size w w' ∧ c < w'.heap.size ∧ w.heap.size ≤ r ∧ w.heap.size ≤ c ∧ r < w'.heap.size := by
  have hmf : ∀ (fn : Fn) (first cap : Array Value) (w : World), (Instr.makeFunc fn first cap).run Try.prog w = .ok (.func fn first cap) w := fun _ _ _ _ => rfl
  go_enter Try.func10, Try.ntmps10
  go_wp2_with fail
  refine (Lazy_any 23 #[.pointer (some ⟨w.heap.size, 0, none⟩)] _).mono ?_
  rintro e w1 ⟨rfl, hr, hb⟩
  have hc : w1.cell? ⟨w.heap.size, 0, none⟩ = some (.pointer d) := keep hb (by rw [cell_of_heap (heap_alloc_new _ _)]; rfl)
  have HE := Lib.hid (show RN w.heap.size (w.heap.size + 1) d 0 w1 ∧ Below w.heap.size w w1 ∧ w.heap.size < w1.heap.size ∧ w.heap.size + 1 < w1.heap.size from by
    refine ⟨⟨by omega, .inl ⟨?_, hc, rfl⟩⟩, ((Below.refl _ _).alloc (Nat.le_refl _) _).trans (hb.mono (by simp)), block_lt_of_cell hc, by have := heap_lt hr; simpa using this⟩
    rw [show (w.alloc (.cells #[.pointer d] 24)).heap.size = w.heap.size + 1 by simp] at hr
    exact hr)
  clear hr hb hc
  go_wp2_with fail
  go_ret
  refine ⟨w.heap.size, w.heap.size + 1, rfl, HE.out.1, HE.out.2.1, HE.out.2.2.1, by omega, Nat.le_refl _, HE.out.2.2.2⟩
/-- Behind what a root of a directory was asked. -/
theorem RN.of_done {c r : Nat} {d : Option Addr} {v : Int} {w : World} (h : Done r (askN c) d v Tru w) (hc : c ≠ r) : RN c r d v w := ⟨hc, .inr h⟩
theorem RN.below {c r : Nat} {d : Option Addr} {v : Int} {w w' : World} (h : RN c r d v w) (hb : Below w.heap.size w w') : RN c r d v w' := by
  obtain ⟨h0, ⟨h1, h2, h3⟩ | ⟨s, h1, h2, _⟩⟩ := h
  · exact ⟨h0, .inl ⟨Below.heap' hb h1, keep hb h2, h3⟩⟩
  · exact ⟨h0, .inr ⟨s, Below.heap' hb h1, Below.heap' hb h2, trivial⟩⟩
def RNEnd (c r : Nat) (d : Option Addr) (v : Int) (x : Value) (w : World) (e : Ending) (w' : World) : Prop := e = .returned x ∧ RN c r d v w' ∧ Upd [r] w w'
theorem RN.Load {c r : Nat} {d : Option Addr} {v : Int} {w : World} (h : RN c r d v w) : Calls Try.prog 14 #[.pointer (some ⟨r, 0, none⟩)] w (RNEnd c r d v (.tuple #[.pointer d, .int .u64 v]) w) :=
  (Load_any r _ d v _ _ w (Tru.stb r) h.load).mono fun _ _ ⟨h1, h2, h3⟩ => ⟨h1, RN.of_done h2 h.1, h3⟩
theorem RN.Version {c r : Nat} {d : Option Addr} {v : Int} {w : World} (h : RN c r d v w) : Calls Try.prog 16 #[.pointer (some ⟨r, 0, none⟩)] w (RNEnd c r d v (.int .u64 v) w) :=
  (Version_any r _ d v _ _ w (Tru.stb r) h.load).mono fun _ _ ⟨h1, h2, h3⟩ => ⟨h1, RN.of_done h2 h.1, h3⟩
theorem RN.Valid {c r : Nat} {d : Option Addr} {v : Int} {w : World} (h : RN c r d v w) (u : Int) : Calls Try.prog 17 #[.pointer (some ⟨r, 0, none⟩), .int .u64 u] w (RNEnd c r d v (.bool (v == u)) w) :=
  (Valid_any r _ d v u _ _ w h.load).mono fun _ _ ⟨h1, h2, h3⟩ => ⟨h1, RN.of_done h2 h.1, h3⟩
theorem RN.Swap_no {c r : Nat} {d : Option Addr} {v : Int} {w : World} (h : RN c r d v w) (u : Int) (hu : (v == u) = false) (x : Option Addr) : Calls Try.prog 15 #[.pointer (some ⟨r, 0, none⟩), .int .u64 u, .pointer x] w (RNEnd c r d v (.bool false) w) :=
  (Ytmmnheobpbmniaa.Swap_no r _ d v u x _ _ w hu h.load).mono fun _ _ ⟨h1, h2, h3⟩ => ⟨h1, RN.of_done h2 h.1, h3⟩
theorem RN.Swap_yes {c r : Nat} {d : Option Addr} {v : Int} {w : World} (h : RN c r d v w) (hv : 0 ≤ v ∧ v ≤ 1000000) (x : Option Addr) : Calls Try.prog 15 #[.pointer (some ⟨r, 0, none⟩), .int .u64 v, .pointer x] w (RNEnd c r x (v + 1) (.bool true) w) :=
  (Ytmmnheobpbmniaa.Swap_yes r _ d v x _ _ w (Tru.stb r) hv h.load).mono fun _ _ ⟨h1, h2, h3⟩ => ⟨h1, RN.of_done h2 h.1, h3.mono (by simp)⟩
end Go.Proofs.Ytmmnheobpbmniaa
