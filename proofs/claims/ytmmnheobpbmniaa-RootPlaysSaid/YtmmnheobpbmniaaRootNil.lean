/- No root, a root that asks nothing; the lazy root of the law RootKnown. -/
import Derived.Test.YtmmnheobpbmniaaRootLazy
import Derived.Test.YtmmnheobpbmniaaRootOfKnown1
namespace Go.Proofs.Ytmmnheobpbmniaa
open Go.RowKit
theorem load_nil (w : World) : Calls Try.prog 24 #[.pointer none] w fun e w' => e = .returned (.pointer none) ∧ Below w.heap.size w w' := by
  go_enter Try.func24, Try.ntmps24
  go_wp2
  go_ret
  exact ⟨rfl, (Below.refl _ _).alloc (Nat.le_refl _) _⟩
theorem load_ask0 (r : Nat) (w : World) (h : RootRaw w r 0 0 .nilFunc none) : Calls Try.prog 24 #[.pointer (some ⟨r, 0, none⟩)] w fun e w' => e = .returned (.pointer none) ∧ Below w.heap.size w w' := by
  have h1 : RootRaw (w.alloc (.cells #[.pointer (some ⟨r, 0, none⟩)] 27)) r 0 0 .nilFunc none := heap_alloc_old _ h
  obtain ⟨c0, c1, c3, c4, f4⟩ := h1.cells
  have hne : ∀ w, (binOp .eql 31 .nilFunc .nilFunc).run Try.prog w = .ok (.bool true) w := fun w => run_eql_nil_nilFunc w 31 Try.underlying31
  clear h h1
  go_enter Try.func24, Try.ntmps24
  go_wp2
  go_ret
  exact ⟨rfl, (Below.refl _ _).alloc (Nat.le_refl _) _⟩
/-- A root, or none, of which load tells nothing. -/
def NoRoot (p : Option Addr) (w : World) : Prop := Calls Try.prog 24 #[.pointer p] w fun e w' => e = .returned (.pointer none) ∧ Below w.heap.size w w'
theorem Load_none (p : Option Addr) (w : World) (h : NoRoot p w) : Calls Try.prog 14 #[.pointer p] w fun e w' => e = .returned (.tuple #[.pointer none, .int .u64 0]) ∧ Below w.heap.size w w' := by
  replace h := Lib.hid h
  go_enter Try.func14, Try.ntmps14
  go_wp2_with fail
  refine h.out.mono ?_
  clear h
  rintro e w1 ⟨rfl, hb⟩
  replace hb := Lib.hid hb
  go_wp2_with fail
  go_ret2
  exact ⟨rfl, hb.out⟩
theorem Version_none (p : Option Addr) (w : World) (h : NoRoot p w) : Calls Try.prog 16 #[.pointer p] w fun e w' => e = .returned (.int .u64 0) ∧ Below w.heap.size w w' := by
  replace h := Lib.hid (Load_none p w h)
  go_enter Try.func16, Try.ntmps16
  go_wp2_with fail
  refine h.out.mono ?_
  clear h
  rintro e w1 ⟨rfl, hb⟩
  replace hb := Lib.hid hb
  go_wp2_with fail
  go_ret
  exact ⟨rfl, hb.out⟩
theorem Valid_none (p : Option Addr) (u : Int) (w : World) (h : NoRoot p w) : Calls Try.prog 17 #[.pointer p, .int .u64 u] w fun e w' => e = .returned (.bool false) ∧ Below w.heap.size w w' := by
  replace h := Lib.hid h
  go_enter Try.func17, Try.ntmps17
  go_wp2_with fail
  refine h.out.mono ?_
  clear h
  rintro e w1 ⟨rfl, hb⟩
  replace hb := Lib.hid hb
  go_wp2_with fail
  go_ret
  exact ⟨rfl, hb.out⟩
theorem Swap_none (p : Option Addr) (u : Int) (x : Option Addr) (w : World) (h : NoRoot p w) : Calls Try.prog 15 #[.pointer p, .int .u64 u, .pointer x] w fun e w' => e = .returned (.bool false) ∧ Below w.heap.size w w' := by
  replace h := Lib.hid h
  go_enter Try.func15, Try.ntmps15
  go_wp2_with fail
  refine h.out.mono ?_
  clear h
  rintro e w1 ⟨rfl, hb⟩
  replace hb := Lib.hid hb
  go_wp2_with fail
  go_ret
  exact ⟨rfl, hb.out⟩
theorem Lazy_nil (w : World) : Calls Try.prog 12 #[.nilFunc] w fun e w' => ∃ c r, e = .returned (.pointer (some ⟨r, 0, none⟩)) ∧ RN c r none 0 w' ∧ Below w.heap.size w w' ∧ c < w'.heap.size ∧ w.heap.size ≤ r ∧ w.heap.size ≤ c ∧ r < w'.heap.size := by
  have hne : ∀ w, (binOp .eql 31 .nilFunc .nilFunc).run Try.prog w = .ok (.bool true) w := fun w => run_eql_nil_nilFunc w 31 Try.underlying31
  have hc := Lib.hid (New_any none w)
  go_enter Try.func12, Try.ntmps12
  go_wp2_with fail
  refine hc.out.mono ?_
  clear hc
  rintro e w1 ⟨c, r, rfl, h1, h2⟩
  replace h1 := Lib.hid h1
  replace h2 := Lib.hid h2
  go_wp2_with fail
  go_ret
  exact ⟨c, r, rfl, h1.out, h2.out⟩
/-! ### The lazy root of the law RootKnown -/
def askK (ab lb : Nat) : Value := .func (.func 18) #[] #[.pointer (some ⟨ab, 0, none⟩), .pointer (some ⟨lb, 0, none⟩)]
def PreK (n : Int) (ab lb : Nat) (x0 x1 x2 x3 : Option Addr) (w : World) : Prop :=
  w.heap[ab]? = some (.cells #[.int .i64 n] 3) ∧ w.heap[lb]? = some (.cells #[.pointer x0, .pointer x1, .pointer x2, .pointer x3] 25)
theorem PreK.upd {n : Int} {ab lb : Nat} {x0 x1 x2 x3 : Option Addr} {w w' : World} {S : List Nat} (h : PreK n ab lb x0 x1 x2 x3 w) (hu : Upd S w w') (h1 : ab ∉ S) (h2 : lb ∉ S) : PreK n ab lb x0 x1 x2 x3 w' :=
  ⟨hu.heap h.1 h1, hu.heap h.2 h2⟩
theorem known1_any (ab lb : Nat) (x0 x1 x2 x3 : Option Addr) (h1 : ab ≠ lb) (w : World) (h : PreK 0 ab lb x0 x1 x2 x3 w) :
    Calls Try.prog 18 #[.pointer (some ⟨ab, 0, none⟩), .pointer (some ⟨lb, 0, none⟩)] w fun e w' => e = .returned (.pointer x3) ∧ Upd [ab] w w' ∧ PreK 1 ab lb x0 x1 x2 x3 w' := by
  have hu : Upd [ab] w (w.setCell ⟨ab, 0, none⟩ (.int .i64 1)) := (Upd.refl _ _).setCell (p := ⟨ab, 0, none⟩) (by simp) _
  have hp : PreK 1 ab lb x0 x1 x2 x3 (w.setCell ⟨ab, 0, none⟩ (.int .i64 1)) := ⟨by rw [heap_set_same h.1]; rfl, hu.heap h.2 (by simp; omega)⟩
  have c0 : w.cell? ⟨ab, 0, none⟩ = some (.int .i64 0) := by rw [cell_of_heap h.1]; rfl
  have cf : w.frozen? ⟨ab, 0, none⟩ = false := frozen_of_heap h.1 0
  have m3 : (w.setCell ⟨ab, 0, none⟩ (.int .i64 1)).cell? ⟨lb, 3, none⟩ = some (.pointer x3) := by rw [cell_of_heap hp.2]; rfl
  have HU := Lib.hid hu
  have HP := Lib.hid hp
  clear hu hp h
  go_enter Try.func18, Try.ntmps18
  go_wp2_with fail
  go_ret
  exact ⟨rfl, HU.out, HP.out⟩
theorem askK_is {ab lb r : Nat} {x0 x1 x2 x3 : Option Addr} (h1 : ab ≠ lb) (r1 : r ≠ ab) (r2 : r ≠ lb) :
    AskIs r 18 #[.pointer (some ⟨ab, 0, none⟩), .pointer (some ⟨lb, 0, none⟩)] x3 [ab] (PreK 0 ab lb x0 x1 x2 x3) (PreK 1 ab lb x0 x1 x2 x3) :=
  ⟨fun w hw => known1_any ab lb x0 x1 x2 x3 h1 w hw, fun _ _ hw hu => hw.upd hu (by simp; omega) (by simp; omega), fun _ _ hw hu => hw.upd hu (by simp; omega) (by simp; omega), by simp; omega⟩
structure KZ (w0 w : World) (ab lb z : Nat) (x0 x1 x2 x3 : Option Addr) (n : Nat) : Prop where
  bel : Below w0.heap.size w0 w
  pre : PreK n ab lb x0 x1 x2 x3 w
  zz : (n = 0 ∧ RootRaw w z 0 0 (askK ab lb) none) ∨ (n = 1 ∧ Done z (askK ab lb) x3 0 Tru w)
  ne : ab ≠ lb ∧ z ≠ ab ∧ z ≠ lb
  wl : w0.heap.size ≤ z ∧ w0.heap.size ≤ ab
def KZEnd (w0 : World) (ab lb z : Nat) (x0 x1 x2 x3 : Option Addr) (n : Nat) (x : Value) (e : Ending) (w' : World) : Prop := e = .returned x ∧ KZ w0 w' ab lb z x0 x1 x2 x3 n
theorem KZ.below {w0 w w' : World} {ab lb z : Nat} {x0 x1 x2 x3 : Option Addr} {n : Nat} (h : KZ w0 w ab lb z x0 x1 x2 x3 n) (hb : Below w.heap.size w w') : KZ w0 w' ab lb z x0 x1 x2 x3 n := by
  have hu : Upd [] w w' := Upd.of_below hb
  refine ⟨h.bel.trans (hb.mono h.bel.size), h.pre.upd hu (by simp) (by simp), ?_, h.ne, h.wl⟩
  rcases h.zz with ⟨h1, h2⟩ | ⟨h1, h2⟩
  · exact .inl ⟨h1, h2.upd hu (by simp)⟩
  · exact .inr ⟨h1, h2.upd hu (by simp) (by intro k hk; simp at hk)⟩
theorem KZ.upd {w0 w w' : World} {ab lb z r : Nat} {x0 x1 x2 x3 : Option Addr} {n : Nat} (h : KZ w0 w ab lb z x0 x1 x2 x3 n) (hu : Upd [r] w w') (hr : w0.heap.size ≤ r) (hn : NoState [r] w) (h1 : r ≠ ab) (h2 : r ≠ lb) (h3 : r ≠ z) : KZ w0 w' ab lb z x0 x1 x2 x3 n := by
  refine ⟨h.bel.trans (hu.below h.bel.size (by simp; exact hr)), h.pre.upd hu (by simp; omega) (by simp; omega), ?_, h.ne, h.wl⟩
  rcases h.zz with ⟨q1, q2⟩ | ⟨q1, q2⟩
  · exact .inl ⟨q1, q2.upd hu (by simp; omega)⟩
  · exact .inr ⟨q1, q2.upd hu (by simp; omega) hn⟩
theorem KZ.load {w0 w : World} {ab lb z : Nat} {x0 x1 x2 x3 : Option Addr} {n : Nat} (h : KZ w0 w ab lb z x0 x1 x2 x3 n) : Calls Try.prog 24 #[.pointer (some ⟨z, 0, none⟩)] w (LoadEnd z (askK ab lb) x3 0 [z, ab] (PreK 1 ab lb x0 x1 x2 x3) w) := by
  have hask := askK_is (x0 := x0) (x1 := x1) (x2 := x2) (x3 := x3) h.ne.1 h.ne.2.1 h.ne.2.2
  rcases h.zz with ⟨h1, h2⟩ | ⟨h1, s, h2, h3, _⟩
  · subst h1
    exact RKnown.load_first z _ _ [ab] _ _ none w hask h2 (by simp; exact heap_lt h.pre.1) h.pre
  · subst h1
    exact RKnown.load_done z s _ _ 0 [z, ab] _ w hask.post h2 h3 h.pre
theorem KZ.step {w0 w : World} {ab lb z : Nat} {x0 x1 x2 x3 : Option Addr} {n : Nat} {f : FuncId} {args : Array Value} {x : Value} (h : KZ w0 w ab lb z x0 x1 x2 x3 n) (hc : Calls Try.prog f args w (LoadsEnd z (askK ab lb) x3 0 [z, ab] (PreK 1 ab lb x0 x1 x2 x3) x w)) :
    Calls Try.prog f args w (KZEnd w0 ab lb z x0 x1 x2 x3 1 x) :=
  hc.mono fun e w' ⟨he, ⟨s, h1, h2, h3⟩, hu⟩ => ⟨he, h.bel.trans (hu.below h.bel.size (by simp; exact h.wl)), h3, .inr ⟨rfl, s, h1, h2, trivial⟩, h.ne, h.wl⟩
theorem KZ.Version {w0 w : World} {ab lb z : Nat} {x0 x1 x2 x3 : Option Addr} {n : Nat} (h : KZ w0 w ab lb z x0 x1 x2 x3 n) : Calls Try.prog 16 #[.pointer (some ⟨z, 0, none⟩)] w (KZEnd w0 ab lb z x0 x1 x2 x3 1 (.int .u64 0)) :=
  h.step (Version_any z _ _ 0 _ _ w (askK_is h.ne.1 h.ne.2.1 h.ne.2.2).post h.load)
theorem KZ.Load {w0 w : World} {ab lb z : Nat} {x0 x1 x2 x3 : Option Addr} {n : Nat} (h : KZ w0 w ab lb z x0 x1 x2 x3 n) : Calls Try.prog 14 #[.pointer (some ⟨z, 0, none⟩)] w (KZEnd w0 ab lb z x0 x1 x2 x3 1 (.tuple #[.pointer x3, .int .u64 0])) :=
  h.step (Load_any z _ _ 0 _ _ w (askK_is h.ne.1 h.ne.2.1 h.ne.2.2).post h.load)
theorem KZ.cells {w0 w : World} {ab lb z : Nat} {x0 x1 x2 x3 : Option Addr} {n : Nat} (h : KZ w0 w ab lb z x0 x1 x2 x3 n) :
    w.cell? ⟨lb, 0, none⟩ = some (.pointer x0) ∧ w.cell? ⟨lb, 1, none⟩ = some (.pointer x1) ∧ w.cell? ⟨lb, 2, none⟩ = some (.pointer x2) ∧ w.cell? ⟨lb, 3, none⟩ = some (.pointer x3) ∧ w.cell? ⟨ab, 0, none⟩ = some (.int .i64 n) := by
  have h1 := h.pre.1
  have h2 := h.pre.2
  refine ⟨?_, ?_, ?_, ?_, ?_⟩ <;> first | (rw [cell_of_heap h2]; rfl) | (rw [cell_of_heap h1]; rfl)
theorem KZ.lt {w0 w : World} {ab lb z : Nat} {x0 x1 x2 x3 : Option Addr} {n : Nat} (h : KZ w0 w ab lb z x0 x1 x2 x3 n) : ab < w.heap.size ∧ lb < w.heap.size ∧ z < w.heap.size ∧ w0.heap.size ≤ w.heap.size := by
  refine ⟨heap_lt h.pre.1, heap_lt h.pre.2, ?_, h.bel.size⟩
  rcases h.zz with ⟨_, h2⟩ | ⟨_, _, h2, _⟩
  · exact heap_lt h2
  · exact heap_lt h2
/-- A new root that asks nothing. -/
def root0 : Obj := .cells #[.int .u32 0, .int .i32 0, .int .u32 0, .nilFunc, .pointer none] 57
theorem root0_no (w : World) : NoRoot (some ⟨w.heap.size, 0, none⟩) (w.alloc (.cells #[.int .u32 0, .int .i32 0, .int .u32 0, .nilFunc, .pointer none] 57)) := load_ask0 _ _ (heap_alloc_new _ _)
theorem KZ.root0 {w0 w : World} {ab lb z : Nat} {x0 x1 x2 x3 : Option Addr} {n : Nat} (h : KZ w0 w ab lb z x0 x1 x2 x3 n) : KZ w0 (w.alloc (.cells #[.int .u32 0, .int .i32 0, .int .u32 0, .nilFunc, .pointer none] 57)) ab lb z x0 x1 x2 x3 n := h.below ((Below.refl _ _).alloc (Nat.le_refl _) _)
/-- A call that turns nothing that was there. -/
theorem KZ.quiet {w0 w : World} {ab lb z : Nat} {x0 x1 x2 x3 : Option Addr} {n : Nat} {f : FuncId} {args : Array Value} {x : Value} (h : KZ w0 w ab lb z x0 x1 x2 x3 n) (hc : Calls Try.prog f args w fun e w' => e = .returned x ∧ Below w.heap.size w w') : Calls Try.prog f args w (KZEnd w0 ab lb z x0 x1 x2 x3 n x) :=
  hc.mono fun _ _ ⟨he, hb⟩ => ⟨he, h.below hb⟩
/-- A root that was just made is asked. -/
theorem KZ.fresh {w0 w : World} {ab lb z c r : Nat} {x0 x1 x2 x3 d : Option Addr} {v : Int} {n : Nat} {f : FuncId} {args : Array Value} {x : Value} (h : KZ w0 w ab lb z x0 x1 x2 x3 n) (hn : RN c r d v w) (hr : w0.heap.size ≤ r) (h1 : r ≠ ab) (h2 : r ≠ lb) (h3 : r ≠ z) (hc : Calls Try.prog f args w (RNEnd c r d v x w)) : Calls Try.prog f args w (KZEnd w0 ab lb z x0 x1 x2 x3 n x) :=
  hc.mono fun _ _ ⟨he, _, hu⟩ => ⟨he, h.upd hu hr (by intro k hk; simp at hk; subst hk; exact hn.raw) h1 h2 h3⟩
end Go.Proofs.Ytmmnheobpbmniaa
