/- Worlds with more than one root: what stays where another root is asked. -/
import Derived.Test.YtmmnheobpbmniaaRootActs
import Derived.Test.YtmmnheobpbmniaaRootOfApart1
import Derived.IntWalk
namespace Go.Proofs.Ytmmnheobpbmniaa
open Go.RowKit
/-- None of these blocks is a root's state. -/
def NoState (S : List Nat) (w : World) : Prop := ∀ k, k ∈ S → ∃ cs t, w.heap[k]? = some (.cells cs t) ∧ t ≠ 73
theorem StateIs.upd {w w' : World} {s : Nat} {d : Option Addr} {v : Int} {S : List Nat} (h : StateIs w s d v) (hu : Upd S w w') (hn : NoState S w) : StateIs w' s d v := by
  refine hu.heap h fun hs => ?_
  obtain ⟨cs, t, h1, h2⟩ := hn s hs
  unfold StateIs at h
  rw [h] at h1
  injection h1 with h1
  injection h1 with _ h3 _
  exact h2 h3.symm
theorem Done.upd {r : Nat} {ask : Value} {d : Option Addr} {v : Int} {w w' : World} {S : List Nat} (h : Done r ask d v Tru w) (hu : Upd S w w') (hr : r ∉ S) (hn : NoState S w) : Done r ask d v Tru w' := by
  obtain ⟨s, h1, h2, _⟩ := h
  exact ⟨s, h1.upd hu hr, h2.upd hu hn, trivial⟩
theorem RN.upd {c r : Nat} {d : Option Addr} {v : Int} {w w' : World} {S : List Nat} (h : RN c r d v w) (hu : Upd S w w') (hr : r ∉ S) (hc : c ∉ S) (hn : NoState S w) : RN c r d v w' := by
  obtain ⟨h0, ⟨h1, h2, h3⟩ | h1⟩ := h
  · exact ⟨h0, .inl ⟨h1.upd hu hr, hu.cell h2 hc, h3⟩⟩
  · exact ⟨h0, .inr (h1.upd hu hr hn)⟩
theorem RN.raw {c r : Nat} {d : Option Addr} {v : Int} {w : World} (h : RN c r d v w) : ∃ cs t, w.heap[r]? = some (.cells cs t) ∧ t ≠ 73 := by
  rcases h.2 with ⟨h1, _⟩ | ⟨_, h1, _⟩
  · exact ⟨_, _, h1, by decide⟩
  · exact ⟨_, _, h1, by decide⟩
/-! ### The lazy root of the law RootApart -/
def askB (ab lb fb : Nat) : Value := .func (.func 13) #[] #[.pointer (some ⟨ab, 0, none⟩), .pointer (some ⟨lb, 0, none⟩), .pointer (some ⟨fb, 0, none⟩)]
def PreB (n : Int) (ab lb fb : Nat) (x0 x1 x2 x3 : Option Addr) (a : Int) (w : World) : Prop :=
  w.heap[ab]? = some (.cells #[.int .i64 n] 3) ∧ w.heap[lb]? = some (.cells #[.pointer x0, .pointer x1, .pointer x2, .pointer x3] 25) ∧ w.heap[fb]? = some (.cells #[.int .u8 a] 5)
theorem PreB.upd {n : Int} {ab lb fb : Nat} {x0 x1 x2 x3 : Option Addr} {a : Int} {w w' : World} {S : List Nat} (h : PreB n ab lb fb x0 x1 x2 x3 a w) (hu : Upd S w w') (h1 : ab ∉ S) (h2 : lb ∉ S) (h3 : fb ∉ S) : PreB n ab lb fb x0 x1 x2 x3 a w' :=
  ⟨hu.heap h.1 h1, hu.heap h.2.1 h2, hu.heap h.2.2 h3⟩
theorem apart1_any (ab lb fb : Nat) (x0 x1 x2 x3 : Option Addr) (a : Int) (q : Nat) (hq : a % 4 = q) (ha : 0 ≤ a ∧ a ≤ 255) (h1 : ab ≠ lb) (h2 : ab ≠ fb) (w : World) (h : PreB 0 ab lb fb x0 x1 x2 x3 a w) :
    Calls Try.prog 13 #[.pointer (some ⟨ab, 0, none⟩), .pointer (some ⟨lb, 0, none⟩), .pointer (some ⟨fb, 0, none⟩)] w fun e w' => e = .returned (.pointer (dsel x0 x1 x2 x3 q)) ∧ Upd [ab] w w' ∧ PreB 1 ab lb fb x0 x1 x2 x3 a w' := by
  obtain ⟨a0, a1⟩ := ha
  have hu : Upd [ab] w (w.setCell ⟨ab, 0, none⟩ (.int .i64 1)) := (Upd.refl _ _).setCell (p := ⟨ab, 0, none⟩) (by simp) _
  have hp : PreB 1 ab lb fb x0 x1 x2 x3 a (w.setCell ⟨ab, 0, none⟩ (.int .i64 1)) := ⟨by rw [heap_set_same h.1]; rfl, hu.heap h.2.1 (by simp; omega), hu.heap h.2.2 (by simp; omega)⟩
  have c0 : w.cell? ⟨ab, 0, none⟩ = some (.int .i64 0) := by rw [cell_of_heap h.1]; rfl
  have cf : w.frozen? ⟨ab, 0, none⟩ = false := frozen_of_heap h.1 0
  have m0 : (w.setCell ⟨ab, 0, none⟩ (.int .i64 1)).cell? ⟨lb, 0, none⟩ = some (.pointer x0) := by rw [cell_of_heap hp.2.1]; rfl
  have m1 : (w.setCell ⟨ab, 0, none⟩ (.int .i64 1)).cell? ⟨lb, 1, none⟩ = some (.pointer x1) := by rw [cell_of_heap hp.2.1]; rfl
  have m2 : (w.setCell ⟨ab, 0, none⟩ (.int .i64 1)).cell? ⟨lb, 2, none⟩ = some (.pointer x2) := by rw [cell_of_heap hp.2.1]; rfl
  have m3 : (w.setCell ⟨ab, 0, none⟩ (.int .i64 1)).cell? ⟨lb, 3, none⟩ = some (.pointer x3) := by rw [cell_of_heap hp.2.1]; rfl
  have k0 : (w.setCell ⟨ab, 0, none⟩ (.int .i64 1)).cell? ⟨fb, 0, none⟩ = some (.int .u8 a) := by rw [cell_of_heap hp.2.2]; rfl
  have HU := Lib.hid hu
  have HP := Lib.hid hp
  have HQ := Lib.hid hq
  have hq4 : q < 4 := by omega
  clear hu hp h hq
  go_enter Try.func13, Try.ntmps13
  go_wp2_with fail
  rw [HQ.out]
  refine (at_any x0 x1 x2 x3 q (by omega) _).mono ?_
  rintro e w1 ⟨rfl, hb⟩
  have HE := Lib.hid (show Upd [ab] w w1 ∧ PreB 1 ab lb fb x0 x1 x2 x3 a w1 from ⟨HU.out.trans (Upd.of_below hb), HP.out.upd (Upd.of_below (S := []) hb) (by simp) (by simp) (by simp)⟩)
  clear hb m0 m1 m2 m3 k0
  go_wp2_with fail
  go_ret
  exact ⟨rfl, HE.out⟩
theorem askB_is {ab lb fb r : Nat} {x0 x1 x2 x3 : Option Addr} {a : Int} {q : Nat} (hq : a % 4 = q) (ha : 0 ≤ a ∧ a ≤ 255) (h1 : ab ≠ lb) (h2 : ab ≠ fb) (r1 : r ≠ ab) (r2 : r ≠ lb) (r3 : r ≠ fb) :
    AskIs r 13 #[.pointer (some ⟨ab, 0, none⟩), .pointer (some ⟨lb, 0, none⟩), .pointer (some ⟨fb, 0, none⟩)] (dsel x0 x1 x2 x3 q) [ab] (PreB 0 ab lb fb x0 x1 x2 x3 a) (PreB 1 ab lb fb x0 x1 x2 x3 a) :=
  ⟨fun w hw => apart1_any ab lb fb x0 x1 x2 x3 a q hq ha h1 h2 w hw, fun _ _ hw hu => hw.upd hu (by simp; omega) (by simp; omega) (by simp; omega), fun _ _ hw hu => hw.upd hu (by simp; omega) (by simp; omega) (by simp; omega), by simp; omega⟩
/-- The world of the law RootApart. n: how often the lazy root's function was asked. -/
structure AP (w0 w : World) (ab lb fb ra ca rb : Nat) (x0 x1 x2 x3 : Option Addr) (a : Int) (q : Nat) (d : Option Addr) (v : Int) (n : Nat) : Prop where
  bel : Below w0.heap.size w0 w
  pre : PreB n ab lb fb x0 x1 x2 x3 a w
  rn : RN ca ra d v w
  b : (n = 0 ∧ RootRaw w rb 0 0 (askB ab lb fb) none) ∨ (n = 1 ∧ Done rb (askB ab lb fb) (dsel x0 x1 x2 x3 q) 0 Tru w)
  nra : ra ≠ ab ∧ ra ≠ lb ∧ ra ≠ fb ∧ ra ≠ rb
  nrb : rb ≠ ab ∧ rb ≠ lb ∧ rb ≠ fb ∧ rb ≠ ca
  nab : ab ≠ lb ∧ ab ≠ fb ∧ ab ≠ ca
  wl : w0.heap.size ≤ ra ∧ w0.heap.size ≤ rb ∧ w0.heap.size ≤ ab
def APEnd (w0 : World) (ab lb fb ra ca rb : Nat) (x0 x1 x2 x3 : Option Addr) (a : Int) (q : Nat) (d : Option Addr) (v : Int) (n : Nat) (x : Value) (e : Ending) (w' : World) : Prop := e = .returned x ∧ AP w0 w' ab lb fb ra ca rb x0 x1 x2 x3 a q d v n
theorem AP.below {w0 w w' : World} {ab lb fb ra ca rb : Nat} {x0 x1 x2 x3 : Option Addr} {a : Int} {q : Nat} {d : Option Addr} {v : Int} {n : Nat} (h : AP w0 w ab lb fb ra ca rb x0 x1 x2 x3 a q d v n) (hb : Below w.heap.size w w') : AP w0 w' ab lb fb ra ca rb x0 x1 x2 x3 a q d v n := by
  have hu : Upd [] w w' := Upd.of_below hb
  refine ⟨h.bel.trans (hb.mono h.bel.size), h.pre.upd hu (by simp) (by simp) (by simp), h.rn.below hb, ?_, h.nra, h.nrb, h.nab, h.wl⟩
  rcases h.b with ⟨h1, h2⟩ | ⟨h1, h2⟩
  · exact .inl ⟨h1, h2.upd hu (by simp)⟩
  · exact .inr ⟨h1, h2.upd hu (by simp) (by intro k hk; simp at hk)⟩
/-- The other root is asked or swapped. -/
theorem AP.stepA {w0 w : World} {ab lb fb ra ca rb : Nat} {x0 x1 x2 x3 : Option Addr} {a : Int} {q : Nat} {d d' : Option Addr} {v v' : Int} {n : Nat} {f : FuncId} {args : Array Value} {x : Value} (h : AP w0 w ab lb fb ra ca rb x0 x1 x2 x3 a q d v n) (hc : Calls Try.prog f args w (RNEnd ca ra d' v' x w)) :
    Calls Try.prog f args w (APEnd w0 ab lb fb ra ca rb x0 x1 x2 x3 a q d' v' n x) := by
  refine hc.mono fun e w' ⟨he, hr, hu⟩ => ⟨he, h.bel.trans (hu.below h.bel.size (by simp; exact h.wl.1)), h.pre.upd hu (by simp; exact fun e => h.nra.1 e.symm) (by simp; exact fun e => h.nra.2.1 e.symm) (by simp; exact fun e => h.nra.2.2.1 e.symm), hr, ?_, h.nra, h.nrb, h.nab, h.wl⟩
  have hrb : rb ∉ [ra] := by simp; exact fun e => h.nra.2.2.2 e.symm
  rcases h.b with ⟨h1, h2⟩ | ⟨h1, h2⟩
  · exact .inl ⟨h1, h2.upd hu hrb⟩
  · exact .inr ⟨h1, h2.upd hu hrb (by intro k hk; simp at hk; subst hk; exact h.rn.raw)⟩
/-- The lazy root is loaded: its function has been asked once, now or before. -/
theorem AP.loadB {w0 w : World} {ab lb fb ra ca rb : Nat} {x0 x1 x2 x3 : Option Addr} {a : Int} {q : Nat} {d : Option Addr} {v : Int} {n : Nat} (h : AP w0 w ab lb fb ra ca rb x0 x1 x2 x3 a q d v n) (hq : a % 4 = q) (ha : 0 ≤ a ∧ a ≤ 255) :
    Calls Try.prog 14 #[.pointer (some ⟨rb, 0, none⟩)] w (APEnd w0 ab lb fb ra ca rb x0 x1 x2 x3 a q d v 1 (.tuple #[.pointer (dsel x0 x1 x2 x3 q), .int .u64 0])) := by
  have hask := askB_is (x0 := x0) (x1 := x1) (x2 := x2) (x3 := x3) hq ha h.nab.1 h.nab.2.1 h.nrb.1 h.nrb.2.1 h.nrb.2.2.1
  have key : Calls Try.prog 24 #[.pointer (some ⟨rb, 0, none⟩)] w (LoadEnd rb (askB ab lb fb) (dsel x0 x1 x2 x3 q) 0 [rb, ab] (PreB 1 ab lb fb x0 x1 x2 x3 a) w) := by
    rcases h.b with ⟨h1, h2⟩ | ⟨h1, s, h2, h3, _⟩
    · subst h1
      exact RApart.load_first rb _ _ [ab] _ _ none w hask h2 (by simp; exact heap_lt h.pre.1) h.pre
    · subst h1
      exact RApart.load_done rb s _ _ 0 [rb, ab] _ w hask.post h2 h3 h.pre
  refine (Load_any rb _ _ 0 _ _ w hask.post key).mono ?_
  rintro e w' ⟨rfl, ⟨s, h1, h2, h3⟩, hu⟩
  have hns : NoState [rb, ab] w := by
    intro k hk
    simp at hk
    rcases hk with rfl | rfl
    · rcases h.b with ⟨_, h5⟩ | ⟨_, _, h5, _⟩
      · exact ⟨_, _, h5, by decide⟩
      · exact ⟨_, _, h5, by decide⟩
    · exact ⟨_, _, h.pre.1, by decide⟩
  refine ⟨rfl, h.bel.trans (hu.below h.bel.size (by simp; exact ⟨h.wl.2.1, h.wl.2.2⟩)), h3, h.rn.upd hu (by simp; exact ⟨h.nra.2.2.2, h.nra.1⟩) (by simp; exact ⟨fun e => h.nrb.2.2.2 e.symm, fun e => h.nab.2.2 e.symm⟩) hns, .inr ⟨rfl, s, h1, h2, trivial⟩, h.nra, h.nrb, h.nab, h.wl⟩
theorem AP.at {w0 w : World} {ab lb fb ra ca rb : Nat} {x0 x1 x2 x3 : Option Addr} {a : Int} {q : Nat} {d : Option Addr} {v : Int} {n : Nat} (h : AP w0 w ab lb fb ra ca rb x0 x1 x2 x3 a q d v n) (i : Nat) (hi : i ≤ 4) :
    Calls Try.prog 11 #[.agg #[.pointer x0, .pointer x1, .pointer x2, .pointer x3], .int .i64 i] w (APEnd w0 ab lb fb ra ca rb x0 x1 x2 x3 a q d v n (.pointer (dsel x0 x1 x2 x3 i))) :=
  (at_any x0 x1 x2 x3 i hi w).mono fun _ _ ⟨he, hb⟩ => ⟨he, h.below hb⟩
theorem AP.cells {w0 w : World} {ab lb fb ra ca rb : Nat} {x0 x1 x2 x3 : Option Addr} {a : Int} {q : Nat} {d : Option Addr} {v : Int} {n : Nat} (h : AP w0 w ab lb fb ra ca rb x0 x1 x2 x3 a q d v n) :
    w.cell? ⟨lb, 0, none⟩ = some (.pointer x0) ∧ w.cell? ⟨lb, 1, none⟩ = some (.pointer x1) ∧ w.cell? ⟨lb, 2, none⟩ = some (.pointer x2) ∧ w.cell? ⟨lb, 3, none⟩ = some (.pointer x3) ∧ w.cell? ⟨fb, 0, none⟩ = some (.int .u8 a) ∧ w.cell? ⟨ab, 0, none⟩ = some (.int .i64 n) := by
  have h1 := h.pre.1
  have h2 := h.pre.2.1
  have h3 := h.pre.2.2
  refine ⟨?_, ?_, ?_, ?_, ?_, ?_⟩ <;> first | (rw [cell_of_heap h2]; rfl) | (rw [cell_of_heap h3]; rfl) | (rw [cell_of_heap h1]; rfl)
end Go.Proofs.Ytmmnheobpbmniaa
