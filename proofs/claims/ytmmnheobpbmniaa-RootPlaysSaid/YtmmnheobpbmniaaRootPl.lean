/- The world of the law RootPlays: a root, lazy or not; its function is asked once. -/
import Derived.Test.YtmmnheobpbmniaaRootNil
import Derived.Test.YtmmnheobpbmniaaRootOfPlays1
namespace Go.Proofs.Ytmmnheobpbmniaa
open Go.RowKit
def askP (ab lb kb : Nat) : Value := .func (.func 19) #[] #[.pointer (some ⟨ab, 0, none⟩), .pointer (some ⟨lb, 0, none⟩), .pointer (some ⟨kb, 0, none⟩)]
def PreP (n : Int) (ab lb kb : Nat) (x0 x1 x2 x3 : Option Addr) (k0 : Nat) (w : World) : Prop :=
  w.heap[ab]? = some (.cells #[.int .i64 n] 3) ∧ w.heap[lb]? = some (.cells #[.pointer x0, .pointer x1, .pointer x2, .pointer x3] 25) ∧ w.heap[kb]? = some (.cells #[.int .i64 k0] 3)
theorem PreP.upd {n : Int} {ab lb kb : Nat} {x0 x1 x2 x3 : Option Addr} {k0 : Nat} {w w' : World} {S : List Nat} (h : PreP n ab lb kb x0 x1 x2 x3 k0 w) (hu : Upd S w w') (h1 : ab ∉ S) (h2 : lb ∉ S) (h3 : kb ∉ S) : PreP n ab lb kb x0 x1 x2 x3 k0 w' :=
  ⟨hu.heap h.1 h1, hu.heap h.2.1 h2, hu.heap h.2.2 h3⟩
theorem plays1_any (ab lb kb : Nat) (x0 x1 x2 x3 : Option Addr) (k0 : Nat) (hk : k0 ≤ 4) (h1 : ab ≠ lb) (h2 : ab ≠ kb) (w : World) (h : PreP 0 ab lb kb x0 x1 x2 x3 k0 w) :
    Calls Try.prog 19 #[.pointer (some ⟨ab, 0, none⟩), .pointer (some ⟨lb, 0, none⟩), .pointer (some ⟨kb, 0, none⟩)] w fun e w' => e = .returned (.pointer (dsel x0 x1 x2 x3 k0)) ∧ Upd [ab] w w' ∧ PreP 1 ab lb kb x0 x1 x2 x3 k0 w' := by
  have hu : Upd [ab] w (w.setCell ⟨ab, 0, none⟩ (.int .i64 1)) := (Upd.refl _ _).setCell (p := ⟨ab, 0, none⟩) (by simp) _
  have hp : PreP 1 ab lb kb x0 x1 x2 x3 k0 (w.setCell ⟨ab, 0, none⟩ (.int .i64 1)) := ⟨by rw [heap_set_same h.1]; rfl, hu.heap h.2.1 (by simp; omega), hu.heap h.2.2 (by simp; omega)⟩
  have c0 : w.cell? ⟨ab, 0, none⟩ = some (.int .i64 0) := by rw [cell_of_heap h.1]; rfl
  have cf : w.frozen? ⟨ab, 0, none⟩ = false := frozen_of_heap h.1 0
  have m0 : (w.setCell ⟨ab, 0, none⟩ (.int .i64 1)).cell? ⟨lb, 0, none⟩ = some (.pointer x0) := by rw [cell_of_heap hp.2.1]; rfl
  have m1 : (w.setCell ⟨ab, 0, none⟩ (.int .i64 1)).cell? ⟨lb, 1, none⟩ = some (.pointer x1) := by rw [cell_of_heap hp.2.1]; rfl
  have m2 : (w.setCell ⟨ab, 0, none⟩ (.int .i64 1)).cell? ⟨lb, 2, none⟩ = some (.pointer x2) := by rw [cell_of_heap hp.2.1]; rfl
  have m3 : (w.setCell ⟨ab, 0, none⟩ (.int .i64 1)).cell? ⟨lb, 3, none⟩ = some (.pointer x3) := by rw [cell_of_heap hp.2.1]; rfl
  have k1 : (w.setCell ⟨ab, 0, none⟩ (.int .i64 1)).cell? ⟨kb, 0, none⟩ = some (.int .i64 k0) := by rw [cell_of_heap hp.2.2]; rfl
  have HU := Lib.hid hu
  have HP := Lib.hid hp
  clear hu hp h
  go_enter Try.func19, Try.ntmps19
  go_wp2_with fail
  refine (at_any x0 x1 x2 x3 k0 hk _).mono ?_
  rintro e w1 ⟨rfl, hb⟩
  have HE := Lib.hid (show Upd [ab] w w1 ∧ PreP 1 ab lb kb x0 x1 x2 x3 k0 w1 from ⟨HU.out.trans (Upd.of_below hb), HP.out.upd (Upd.of_below (S := []) hb) (by simp) (by simp) (by simp)⟩)
  clear hb m0 m1 m2 m3 k1
  go_wp2_with fail
  go_ret
  exact ⟨rfl, HE.out⟩
theorem askP_is {ab lb kb r : Nat} {x0 x1 x2 x3 : Option Addr} {k0 : Nat} (hk : k0 ≤ 4) (h1 : ab ≠ lb) (h2 : ab ≠ kb) (r1 : r ≠ ab) (r2 : r ≠ lb) (r3 : r ≠ kb) :
    AskIs r 19 #[.pointer (some ⟨ab, 0, none⟩), .pointer (some ⟨lb, 0, none⟩), .pointer (some ⟨kb, 0, none⟩)] (dsel x0 x1 x2 x3 k0) [ab] (PreP 0 ab lb kb x0 x1 x2 x3 k0) (PreP 1 ab lb kb x0 x1 x2 x3 k0) :=
  ⟨fun w hw => plays1_any ab lb kb x0 x1 x2 x3 k0 hk h1 h2 w hw, fun _ _ hw hu => hw.upd hu (by simp; omega) (by simp; omega) (by simp; omega), fun _ _ hw hu => hw.upd hu (by simp; omega) (by simp; omega) (by simp; omega), by simp; omega⟩
def nn (lz : Bool) : Nat := if lz then 1 else 0
/-- What the root is: of a directory, or lazy. -/
def PRoot (lz : Bool) (ab lb kb c r : Nat) (x0 x1 x2 x3 : Option Addr) (k0 : Nat) (d : Option Addr) (v : Int) (n : Nat) (w : World) : Prop :=
  (lz = false ∧ n = 0 ∧ RN c r d v w) ∨ (lz = true ∧ ((n = 0 ∧ v = 0 ∧ d = dsel x0 x1 x2 x3 k0 ∧ RootRaw w r 0 0 (askP ab lb kb) none) ∨ (n = 1 ∧ Done r (askP ab lb kb) d v Tru w)))
def pask (lz : Bool) (ab lb kb c : Nat) : Value := if lz then askP ab lb kb else askN c
structure PL (w0 w : World) (ab lb kb c r : Nat) (x0 x1 x2 x3 : Option Addr) (k0 : Nat) (lz : Bool) (d : Option Addr) (v : Int) (n : Nat) : Prop where
  bel : Below w0.heap.size w0 w
  pre : PreP n ab lb kb x0 x1 x2 x3 k0 w
  root : PRoot lz ab lb kb c r x0 x1 x2 x3 k0 d v n w
  ne : r ≠ ab ∧ r ≠ lb ∧ r ≠ kb ∧ r ≠ c ∧ ab ≠ lb ∧ ab ≠ kb ∧ ab ≠ c
  wl : w0.heap.size ≤ r ∧ w0.heap.size ≤ ab
  cl : c < w.heap.size
  k4 : k0 ≤ 4
theorem PL.raw {w0 w : World} {ab lb kb c r : Nat} {x0 x1 x2 x3 : Option Addr} {k0 : Nat} {lz : Bool} {d : Option Addr} {v : Int} {n : Nat} (h : PL w0 w ab lb kb c r x0 x1 x2 x3 k0 lz d v n) : ∃ cs t, w.heap[r]? = some (.cells cs t) ∧ t ≠ 73 := by
  rcases h.root with ⟨_, _, h1⟩ | ⟨_, ⟨_, _, _, h1⟩ | ⟨_, _, h1, _⟩⟩
  · exact h1.raw
  · exact ⟨_, _, h1, by decide⟩
  · exact ⟨_, _, h1, by decide⟩
theorem PL.ns {w0 w : World} {ab lb kb c r : Nat} {x0 x1 x2 x3 : Option Addr} {k0 : Nat} {lz : Bool} {d : Option Addr} {v : Int} {n : Nat} (h : PL w0 w ab lb kb c r x0 x1 x2 x3 k0 lz d v n) : NoState [r, ab] w := by
  intro k hk
  simp at hk
  rcases hk with rfl | rfl
  · exact h.raw
  · exact ⟨_, _, h.pre.1, by decide⟩
/-- Other blocks are turned. -/
theorem PL.upd {w0 w w' : World} {ab lb kb c r : Nat} {x0 x1 x2 x3 : Option Addr} {k0 : Nat} {lz : Bool} {d : Option Addr} {v : Int} {n : Nat} {S : List Nat} (h : PL w0 w ab lb kb c r x0 x1 x2 x3 k0 lz d v n) (hu : Upd S w w') (hS : ∀ k, k ∈ S → w0.heap.size ≤ k) (hn : NoState S w) (h1 : r ∉ S) (h2 : ab ∉ S) (h3 : lb ∉ S) (h4 : kb ∉ S) (h5 : c ∉ S) : PL w0 w' ab lb kb c r x0 x1 x2 x3 k0 lz d v n := by
  refine ⟨h.bel.trans (hu.below h.bel.size hS), h.pre.upd hu h2 h3 h4, ?_, h.ne, h.wl, Nat.lt_of_lt_of_le h.cl hu.size, h.k4⟩
  rcases h.root with ⟨q1, q2, q3⟩ | ⟨q1, ⟨q2, q3, q4, q5⟩ | ⟨q2, q3⟩⟩
  · exact .inl ⟨q1, q2, q3.upd hu h1 h5 hn⟩
  · exact .inr ⟨q1, .inl ⟨q2, q3, q4, q5.upd hu h1⟩⟩
  · exact .inr ⟨q1, .inr ⟨q2, q3.upd hu h1 hn⟩⟩
theorem PL.below {w0 w w' : World} {ab lb kb c r : Nat} {x0 x1 x2 x3 : Option Addr} {k0 : Nat} {lz : Bool} {d : Option Addr} {v : Int} {n : Nat} (h : PL w0 w ab lb kb c r x0 x1 x2 x3 k0 lz d v n) (hb : Below w.heap.size w w') : PL w0 w' ab lb kb c r x0 x1 x2 x3 k0 lz d v n :=
  h.upd (Upd.of_below (S := []) hb) (by simp) (by intro k hk; simp at hk) (by simp) (by simp) (by simp) (by simp) (by simp)
theorem PL.load {w0 w : World} {ab lb kb c r : Nat} {x0 x1 x2 x3 : Option Addr} {k0 : Nat} {lz : Bool} {d : Option Addr} {v : Int} {n : Nat} (h : PL w0 w ab lb kb c r x0 x1 x2 x3 k0 lz d v n) :
    Calls Try.prog 24 #[.pointer (some ⟨r, 0, none⟩)] w (LoadEnd r (pask lz ab lb kb c) d v [r, ab] (PreP (nn lz) ab lb kb x0 x1 x2 x3 k0) w) := by
  obtain ⟨n1, n2, n3, n4, n5, n6, n7⟩ := h.ne
  rcases h.root with ⟨q1, q2, q3⟩ | ⟨q1, q2⟩
  · subst q1 q2
    refine q3.load.mono ?_
    rintro e w' ⟨s, h1, h2, h3, h4, _⟩
    exact ⟨s, h1, h2, h3, h4.mono (by simp +contextual), h.pre.upd h4 (by simp; omega) (by simp; omega) (by simp; omega)⟩
  · subst q1
    have hask := askP_is (x0 := x0) (x1 := x1) (x2 := x2) (x3 := x3) h.k4 n5 n6 n1 n2 n3
    rcases q2 with ⟨q2, q3, q4, q5⟩ | ⟨q2, s, q3, q4, _⟩
    · subst q2 q3 q4
      exact RPlays.load_first r _ _ [ab] _ _ none w hask q5 (by simp; exact heap_lt h.pre.1) h.pre
    · subst q2
      exact RPlays.load_done r s _ _ v [r, ab] _ w hask.post q3 q4 h.pre
theorem PL.stb {w0 w : World} {ab lb kb c r : Nat} {x0 x1 x2 x3 : Option Addr} {k0 : Nat} {lz : Bool} {d : Option Addr} {v : Int} {n : Nat} (h : PL w0 w ab lb kb c r x0 x1 x2 x3 k0 lz d v n) : Stb r (PreP (nn lz) ab lb kb x0 x1 x2 x3 k0) := by
  obtain ⟨n1, n2, n3, n4, n5, n6, n7⟩ := h.ne
  intro w1 w2 hw hu
  exact hw.upd hu (by simp; omega) (by simp; omega) (by simp; omega)
def PLEnd (w0 : World) (ab lb kb c r : Nat) (x0 x1 x2 x3 : Option Addr) (k0 : Nat) (lz : Bool) (d : Option Addr) (v : Int) (n : Nat) (x : Value) (w : World) (e : Ending) (w' : World) : Prop := e = .returned x ∧ PL w0 w' ab lb kb c r x0 x1 x2 x3 k0 lz d v n ∧ Upd [r, ab] w w'
theorem PL.done {w0 w w' : World} {ab lb kb c r : Nat} {x0 x1 x2 x3 : Option Addr} {k0 : Nat} {lz : Bool} {d d' : Option Addr} {v v' : Int} {n : Nat} (h : PL w0 w ab lb kb c r x0 x1 x2 x3 k0 lz d v n) (hd : Done r (pask lz ab lb kb c) d' v' (PreP (nn lz) ab lb kb x0 x1 x2 x3 k0) w') (hu : Upd [r, ab] w w') : PL w0 w' ab lb kb c r x0 x1 x2 x3 k0 lz d' v' (nn lz) := by
  obtain ⟨s, h1, h2, h3⟩ := hd
  refine ⟨h.bel.trans (hu.below h.bel.size (by simp; exact h.wl)), h3, ?_, h.ne, h.wl, Nat.lt_of_lt_of_le h.cl hu.size, h.k4⟩
  cases lz
  · exact .inl ⟨rfl, rfl, fun e => h.ne.2.2.2.1 e.symm, .inr ⟨s, h1, h2, trivial⟩⟩
  · exact .inr ⟨rfl, .inr ⟨rfl, s, h1, h2, trivial⟩⟩
theorem PL.step {w0 w : World} {ab lb kb c r : Nat} {x0 x1 x2 x3 : Option Addr} {k0 : Nat} {lz : Bool} {d d' : Option Addr} {v v' : Int} {n : Nat} {f : FuncId} {args : Array Value} {x : Value} (h : PL w0 w ab lb kb c r x0 x1 x2 x3 k0 lz d v n) (hc : Calls Try.prog f args w (LoadsEnd r (pask lz ab lb kb c) d' v' [r, ab] (PreP (nn lz) ab lb kb x0 x1 x2 x3 k0) x w)) :
    Calls Try.prog f args w (PLEnd w0 ab lb kb c r x0 x1 x2 x3 k0 lz d' v' (nn lz) x w) :=
  hc.mono fun _ _ ⟨he, hd, hu⟩ => ⟨he, h.done hd hu, hu⟩
theorem PL.Load {w0 w : World} {ab lb kb c r : Nat} {x0 x1 x2 x3 : Option Addr} {k0 : Nat} {lz : Bool} {d : Option Addr} {v : Int} {n : Nat} (h : PL w0 w ab lb kb c r x0 x1 x2 x3 k0 lz d v n) : Calls Try.prog 14 #[.pointer (some ⟨r, 0, none⟩)] w (PLEnd w0 ab lb kb c r x0 x1 x2 x3 k0 lz d v (nn lz) (.tuple #[.pointer d, .int .u64 v]) w) := h.step (Load_any r _ d v _ _ w h.stb h.load)
theorem PL.Version {w0 w : World} {ab lb kb c r : Nat} {x0 x1 x2 x3 : Option Addr} {k0 : Nat} {lz : Bool} {d : Option Addr} {v : Int} {n : Nat} (h : PL w0 w ab lb kb c r x0 x1 x2 x3 k0 lz d v n) : Calls Try.prog 16 #[.pointer (some ⟨r, 0, none⟩)] w (PLEnd w0 ab lb kb c r x0 x1 x2 x3 k0 lz d v (nn lz) (.int .u64 v) w) := h.step (Version_any r _ d v _ _ w h.stb h.load)
theorem PL.Valid {w0 w : World} {ab lb kb c r : Nat} {x0 x1 x2 x3 : Option Addr} {k0 : Nat} {lz : Bool} {d : Option Addr} {v : Int} {n : Nat} (h : PL w0 w ab lb kb c r x0 x1 x2 x3 k0 lz d v n) (u : Int) : Calls Try.prog 17 #[.pointer (some ⟨r, 0, none⟩), .int .u64 u] w (PLEnd w0 ab lb kb c r x0 x1 x2 x3 k0 lz d v (nn lz) (.bool (v == u)) w) := h.step (Valid_any r _ d v u _ _ w h.load)
theorem PL.Swap_no {w0 w : World} {ab lb kb c r : Nat} {x0 x1 x2 x3 : Option Addr} {k0 : Nat} {lz : Bool} {d : Option Addr} {v : Int} {n : Nat} (h : PL w0 w ab lb kb c r x0 x1 x2 x3 k0 lz d v n) (u : Int) (hu : (v == u) = false) (x : Option Addr) : Calls Try.prog 15 #[.pointer (some ⟨r, 0, none⟩), .int .u64 u, .pointer x] w (PLEnd w0 ab lb kb c r x0 x1 x2 x3 k0 lz d v (nn lz) (.bool false) w) := h.step (Ytmmnheobpbmniaa.Swap_no r _ d v u x _ _ w hu h.load)
theorem PL.Swap_yes {w0 w : World} {ab lb kb c r : Nat} {x0 x1 x2 x3 : Option Addr} {k0 : Nat} {lz : Bool} {d : Option Addr} {v : Int} {n : Nat} (h : PL w0 w ab lb kb c r x0 x1 x2 x3 k0 lz d v n) (hv : 0 ≤ v ∧ v ≤ 1000000) (x : Option Addr) : Calls Try.prog 15 #[.pointer (some ⟨r, 0, none⟩), .int .u64 v, .pointer x] w (PLEnd w0 ab lb kb c r x0 x1 x2 x3 k0 lz x (v + 1) (nn lz) (.bool true) w) :=
  (Ytmmnheobpbmniaa.Swap_yes r _ d v x _ _ w h.stb hv h.load).mono fun _ _ ⟨he, hd, hu⟩ => ⟨he, h.done hd (hu.mono (by simp)), hu.mono (by simp)⟩
theorem PL.cells {w0 w : World} {ab lb kb c r : Nat} {x0 x1 x2 x3 : Option Addr} {k0 : Nat} {lz : Bool} {d : Option Addr} {v : Int} {n : Nat} (h : PL w0 w ab lb kb c r x0 x1 x2 x3 k0 lz d v n) :
    w.cell? ⟨lb, 0, none⟩ = some (.pointer x0) ∧ w.cell? ⟨lb, 1, none⟩ = some (.pointer x1) ∧ w.cell? ⟨lb, 2, none⟩ = some (.pointer x2) ∧ w.cell? ⟨lb, 3, none⟩ = some (.pointer x3) ∧ w.cell? ⟨ab, 0, none⟩ = some (.int .i64 n) := by
  have h1 := h.pre.1
  have h2 := h.pre.2.1
  refine ⟨?_, ?_, ?_, ?_, ?_⟩ <;> first | (rw [cell_of_heap h2]; rfl) | (rw [cell_of_heap h1]; rfl)
/-! ### The document's root -/
def mref (lz : Bool) (m : Nat) : Nat := if lz && m == 0 then 1 else m
set_option maxHeartbeats 1000000 in
theorem ref_ask (D v : Int) (lz : Bool) (m : Nat) (w : World) : Calls Try.prog 20 #[.agg #[.int .i64 D, .int .u64 v, .bool lz, .int .i64 m]] w fun e w' => e = .returned (.agg #[.int .i64 D, .int .u64 v, .bool lz, .int .i64 (mref lz m)]) ∧ Below w.heap.size w w' := by
  cases lz
  · go_enter Try.func20, Try.ntmps20
    go_wp2
    exact bodyPost_ret (v := .agg #[.int .i64 D, .int .u64 v, .bool false, .int .i64 m]) (by simp [results, Try.results20, go_sem]) rfl ⟨rfl, ((Below.refl _ _).alloc (Nat.le_refl _) _).alloc (by simp) _⟩
  · by_cases hm : m = 0
    · subst hm
      go_enter Try.func20, Try.ntmps20
      go_wp2
      exact bodyPost_ret (v := .agg #[.int .i64 D, .int .u64 v, .bool true, .int .i64 1]) (by simp [results, Try.results20, go_sem]) rfl ⟨rfl, ((Below.refl _ _).alloc (Nat.le_refl _) _).alloc (by simp) _⟩
    · have hm2 : ((m : Int) == 0) = false := beq_eq_false_iff_ne.2 (by omega)
      have hmr : mref true m = m := by simp [mref, hm]
      rw [hmr]
      clear hmr
      go_enter Try.func20, Try.ntmps20
      go_wp2
      exact bodyPost_ret (v := .agg #[.int .i64 D, .int .u64 v, .bool true, .int .i64 m]) (by simp [results, Try.results20, go_sem]) rfl ⟨rfl, ((Below.refl _ _).alloc (Nat.le_refl _) _).alloc (by simp) _⟩
set_option maxHeartbeats 1000000 in
theorem ref_swap (D v u D2 : Int) (lz : Bool) (m : Nat) (w : World) (hv : 0 ≤ v ∧ v ≤ 1000000) : Calls Try.prog 21 #[.agg #[.int .i64 D, .int .u64 v, .bool lz, .int .i64 m], .int .u64 u, .int .i64 D2] w fun e w' => e = .returned (.tuple #[.agg #[.int .i64 (if v = u then D2 else D), .int .u64 (if v = u then v + 1 else v), .bool lz, .int .i64 m], .bool (v == u)]) ∧ Below w.heap.size w w' := by
  obtain ⟨hv0, hv1⟩ := hv
  by_cases h : v = u
  · subst h
    rw [if_pos rfl, if_pos rfl]
    go_enter Try.func21, Try.ntmps21
    go_wp2
    exact bodyPost_ret (v := .tuple #[.agg #[.int .i64 D2, .int .u64 (v + 1), .bool lz, .int .i64 m], .bool true]) (by simp [results, Try.results21, go_sem]) rfl ⟨by simp, ((Below.refl _ _).alloc (Nat.le_refl _) _).alloc (by simp) _⟩
  · have h1 : (v == u) = false := beq_eq_false_iff_ne.2 h
    have h2 : (v != u) = true := by simp [h]
    rw [if_neg h, if_neg h]
    replace h := Lib.hid h
    go_enter Try.func21, Try.ntmps21
    go_wp2
    exact bodyPost_ret (v := .tuple #[.agg #[.int .i64 D, .int .u64 v, .bool lz, .int .i64 m], .bool false]) (by simp [results, Try.results21, go_sem]) rfl ⟨by rw [h1], ((Below.refl _ _).alloc (Nat.le_refl _) _).alloc (by simp) _⟩
theorem PL.lt {w0 w : World} {ab lb kb c r : Nat} {x0 x1 x2 x3 : Option Addr} {k0 : Nat} {lz : Bool} {d : Option Addr} {v : Int} {n : Nat} (h : PL w0 w ab lb kb c r x0 x1 x2 x3 k0 lz d v n) : r < w.heap.size ∧ ab < w.heap.size ∧ lb < w.heap.size ∧ kb < w.heap.size ∧ c < w.heap.size ∧ w0.heap.size ≤ w.heap.size := by
  obtain ⟨cs, t, h1, _⟩ := h.raw
  exact ⟨heap_lt h1, heap_lt h.pre.1, heap_lt h.pre.2.1, heap_lt h.pre.2.2, h.cl, h.bel.size⟩
theorem PL.mref {w0 w : World} {ab lb kb c r : Nat} {x0 x1 x2 x3 : Option Addr} {k0 : Nat} {lz : Bool} {d : Option Addr} {v : Int} {n : Nat} (h : PL w0 w ab lb kb c r x0 x1 x2 x3 k0 lz d v n) : mref lz n = nn lz := by
  rcases h.root with ⟨q1, q2, _⟩ | ⟨q1, ⟨q2, _⟩ | ⟨q2, _⟩⟩ <;> (subst q1 q2; rfl)
theorem set4 {w : World} {b : Nat} {c0 c1 c2 c3 : Value} (d0 d1 d2 d3 : Value) {t : TypeId} (h : w.heap[b]? = some (.cells #[c0, c1, c2, c3] t)) :
    Upd [b] w ((((w.setCell ⟨b, 0, none⟩ d0).setCell ⟨b, 1, none⟩ d1).setCell ⟨b, 2, none⟩ d2).setCell ⟨b, 3, none⟩ d3) ∧ ((((w.setCell ⟨b, 0, none⟩ d0).setCell ⟨b, 1, none⟩ d1).setCell ⟨b, 2, none⟩ d2).setCell ⟨b, 3, none⟩ d3).heap[b]? = some (.cells #[d0, d1, d2, d3] t) := by
  refine ⟨((((Upd.refl _ _).setCell (p := ⟨b, 0, none⟩) (by simp) _).setCell (p := ⟨b, 1, none⟩) (by simp) _).setCell (p := ⟨b, 2, none⟩) (by simp) _).setCell (p := ⟨b, 3, none⟩) (by simp) _, ?_⟩
  rw [heap_set_same (heap_set_same (heap_set_same (heap_set_same h _ _) _ _) _ _) _ _]
  rfl
/-- A block of the law's own: none of the root's. -/
structure Own (w0 : World) (ab lb kb c r b : Nat) : Prop where
  ne : b ≠ ab ∧ b ≠ lb ∧ b ≠ kb ∧ b ≠ c ∧ b ≠ r
  wl : w0.heap.size ≤ b
theorem Own.out {w0 : World} {ab lb kb c r b : Nat} (h : Own w0 ab lb kb c r b) : b ∉ [r, ab] := by
  simp
  exact ⟨h.ne.2.2.2.2, h.ne.1⟩
theorem PL.own {w0 w : World} {ab lb kb c r : Nat} {x0 x1 x2 x3 : Option Addr} {k0 : Nat} {lz : Bool} {d : Option Addr} {v : Int} {n : Nat} (h : PL w0 w ab lb kb c r x0 x1 x2 x3 k0 lz d v n) {b : Nat} (hb : w.heap.size ≤ b) : Own w0 ab lb kb c r b := by
  obtain ⟨h1, h2, h3, h4, h5, h6⟩ := h.lt
  exact ⟨by omega, by omega⟩
theorem PL.set {w0 w w' : World} {ab lb kb c r b : Nat} {x0 x1 x2 x3 : Option Addr} {k0 : Nat} {lz : Bool} {d : Option Addr} {v : Int} {n : Nat} (h : PL w0 w ab lb kb c r x0 x1 x2 x3 k0 lz d v n) (hu : Upd [b] w w') (ho : Own w0 ab lb kb c r b) {cs : Array Value} {t : TypeId} (hb : w.heap[b]? = some (.cells cs t)) (ht : t ≠ 73) : PL w0 w' ab lb kb c r x0 x1 x2 x3 k0 lz d v n := by
  obtain ⟨⟨n1, n2, n3, n4, n5⟩, hw⟩ := ho
  exact h.upd hu (by simp; exact hw) (by intro k hk; simp at hk; subst hk; exact ⟨_, _, hb, ht⟩) (by simp; omega) (by simp; omega) (by simp; omega) (by simp; omega) (by simp; omega)
/-- The world in a round: the document's root in wb, the act in xb. -/
structure PW (w0 w : World) (ab lb kb c r wb xb : Nat) (x0 x1 x2 x3 : Option Addr) (k0 : Nat) (lz : Bool) (Dp np m D n ma : Nat) (dó V : Int) (now : Bool) (dd : Int) : Prop where
  pl : PL w0 w ab lb kb c r x0 x1 x2 x3 k0 lz (dsel x0 x1 x2 x3 Dp) np m
  hw : w.heap[wb]? = some (.cells #[.int .i64 D, .int .u64 n, .bool lz, .int .i64 ma] 60)
  hx : w.heap[xb]? = some (.cells #[.int .i64 dó, .int .u64 V, .bool now, .int .u8 dd] 62)
  ow : Own w0 ab lb kb c r wb
  ox : Own w0 ab lb kb c r xb
  ne : wb ≠ xb
theorem PW.below {w0 w w' : World} {ab lb kb c r wb xb : Nat} {x0 x1 x2 x3 : Option Addr} {k0 : Nat} {lz : Bool} {Dp np m D n ma : Nat} {dó V : Int} {now : Bool} {dd : Int} (h : PW w0 w ab lb kb c r wb xb x0 x1 x2 x3 k0 lz Dp np m D n ma dó V now dd) (hb : Below w.heap.size w w') : PW w0 w' ab lb kb c r wb xb x0 x1 x2 x3 k0 lz Dp np m D n ma dó V now dd :=
  ⟨h.pl.below hb, Below.heap' hb h.hw, Below.heap' hb h.hx, h.ow, h.ox, h.ne⟩
theorem PW.cells {w0 w : World} {ab lb kb c r wb xb : Nat} {x0 x1 x2 x3 : Option Addr} {k0 : Nat} {lz : Bool} {Dp np m D n ma : Nat} {dó V : Int} {now : Bool} {dd : Int} (h : PW w0 w ab lb kb c r wb xb x0 x1 x2 x3 k0 lz Dp np m D n ma dó V now dd) :
    (w.cell? ⟨wb, 0, none⟩ = some (.int .i64 D) ∧ w.cell? ⟨wb, 1, none⟩ = some (.int .u64 n) ∧ w.cell? ⟨wb, 2, none⟩ = some (.bool lz) ∧ w.cell? ⟨wb, 3, none⟩ = some (.int .i64 ma) ∧ ∀ i, w.frozen? ⟨wb, i, none⟩ = false) ∧
    (w.cell? ⟨xb, 0, none⟩ = some (.int .i64 dó) ∧ w.cell? ⟨xb, 1, none⟩ = some (.int .u64 V) ∧ w.cell? ⟨xb, 2, none⟩ = some (.bool now) ∧ w.cell? ⟨xb, 3, none⟩ = some (.int .u8 dd) ∧ ∀ i, w.frozen? ⟨xb, i, none⟩ = false) := by
  have h1 := h.hw
  have h2 := h.hx
  refine ⟨⟨?_, ?_, ?_, ?_, frozen_of_heap h1⟩, ⟨?_, ?_, ?_, ?_, frozen_of_heap h2⟩⟩ <;> first | (rw [cell_of_heap h1]; rfl) | (rw [cell_of_heap h2]; rfl)
theorem PW.setV {w0 w : World} {ab lb kb c r wb xb : Nat} {x0 x1 x2 x3 : Option Addr} {k0 : Nat} {lz : Bool} {Dp np m D n ma : Nat} {dó V : Int} {now : Bool} {dd : Int} (h : PW w0 w ab lb kb c r wb xb x0 x1 x2 x3 k0 lz Dp np m D n ma dó V now dd) (V' : Int) : PW w0 (w.setCell ⟨xb, 1, none⟩ (.int .u64 V')) ab lb kb c r wb xb x0 x1 x2 x3 k0 lz Dp np m D n ma dó V' now dd := by
  have hu : Upd [xb] w (w.setCell ⟨xb, 1, none⟩ (.int .u64 V')) := (Upd.refl _ _).setCell (p := ⟨xb, 1, none⟩) (by simp) _
  exact ⟨h.pl.set hu h.ox h.hx (by decide), hu.heap h.hw (by simp; exact h.ne), by rw [heap_set_same h.hx]; rfl, h.ow, h.ox, h.ne⟩
theorem PW.setW {w0 w : World} {ab lb kb c r wb xb : Nat} {x0 x1 x2 x3 : Option Addr} {k0 : Nat} {lz : Bool} {Dp np m D n ma : Nat} {dó V : Int} {now : Bool} {dd : Int} (h : PW w0 w ab lb kb c r wb xb x0 x1 x2 x3 k0 lz Dp np m D n ma dó V now dd) (D' n' ma' : Nat) :
    PW w0 ((((w.setCell ⟨wb, 0, none⟩ (.int .i64 D')).setCell ⟨wb, 1, none⟩ (.int .u64 n')).setCell ⟨wb, 2, none⟩ (.bool lz)).setCell ⟨wb, 3, none⟩ (.int .i64 ma')) ab lb kb c r wb xb x0 x1 x2 x3 k0 lz Dp np m D' n' ma' dó V now dd := by
  obtain ⟨hu, hb⟩ := set4 (.int .i64 D') (.int .u64 n') (.bool lz) (.int .i64 ma') h.hw
  exact ⟨h.pl.set hu h.ow h.hw (by decide), hb, hu.heap h.hx (by simp; exact fun e => h.ne e.symm), h.ow, h.ox, h.ne⟩
def PWEnd (w0 : World) (ab lb kb c r wb xb : Nat) (x0 x1 x2 x3 : Option Addr) (k0 : Nat) (lz : Bool) (Dp np m D n ma : Nat) (dó V : Int) (now : Bool) (dd : Int) (x : Value) (e : Ending) (w' : World) : Prop := e = .returned x ∧ PW w0 w' ab lb kb c r wb xb x0 x1 x2 x3 k0 lz Dp np m D n ma dó V now dd
theorem PW.step {w0 w : World} {ab lb kb c r wb xb : Nat} {x0 x1 x2 x3 : Option Addr} {k0 : Nat} {lz : Bool} {Dp np m D n ma : Nat} {dó V : Int} {now : Bool} {dd : Int} {Dp' np' : Nat} {f : FuncId} {args : Array Value} {x : Value} (h : PW w0 w ab lb kb c r wb xb x0 x1 x2 x3 k0 lz Dp np m D n ma dó V now dd) (hc : Calls Try.prog f args w (PLEnd w0 ab lb kb c r x0 x1 x2 x3 k0 lz (dsel x0 x1 x2 x3 Dp') np' (nn lz) x w)) : Calls Try.prog f args w (PWEnd w0 ab lb kb c r wb xb x0 x1 x2 x3 k0 lz Dp' np' (nn lz) D n ma dó V now dd x) :=
  hc.mono fun _ _ ⟨he, hp, hu⟩ => ⟨he, hp, hu.heap h.hw h.ow.out, hu.heap h.hx h.ox.out, h.ow, h.ox, h.ne⟩
theorem PW.quiet {w0 w : World} {ab lb kb c r wb xb : Nat} {x0 x1 x2 x3 : Option Addr} {k0 : Nat} {lz : Bool} {Dp np m D n ma : Nat} {dó V : Int} {now : Bool} {dd : Int} {f : FuncId} {args : Array Value} {x : Value} (h : PW w0 w ab lb kb c r wb xb x0 x1 x2 x3 k0 lz Dp np m D n ma dó V now dd) (hc : Calls Try.prog f args w fun e w' => e = .returned x ∧ Below w.heap.size w w') : Calls Try.prog f args w (PWEnd w0 ab lb kb c r wb xb x0 x1 x2 x3 k0 lz Dp np m D n ma dó V now dd x) :=
  hc.mono fun _ _ ⟨he, hb⟩ => ⟨he, h.below hb⟩
theorem PW.swap_yes {w0 w : World} {ab lb kb c r wb xb : Nat} {x0 x1 x2 x3 : Option Addr} {k0 : Nat} {lz : Bool} {Dp np m D n ma : Nat} {dó V : Int} {now : Bool} {dd : Int} (h : PW w0 w ab lb kb c r wb xb x0 x1 x2 x3 k0 lz Dp np m D n ma dó V now dd) (hv : np ≤ 1000) (z : Nat) : Calls Try.prog 15 #[.pointer (some ⟨r, 0, none⟩), .int .u64 np, .pointer (dsel x0 x1 x2 x3 z)] w (PWEnd w0 ab lb kb c r wb xb x0 x1 x2 x3 k0 lz z (np + 1) (nn lz) D n ma dó V now dd (.bool true)) := by
  refine h.step ?_
  have := h.pl.Swap_yes (by omega) (dsel x0 x1 x2 x3 z)
  rwa [show ((np + 1 : Nat) : Int) = (np : Int) + 1 by omega]
theorem PW.stepU {w0 w : World} {ab lb kb c r wb xb : Nat} {x0 x1 x2 x3 : Option Addr} {k0 : Nat} {lz : Bool} {Dp np m D n ma : Nat} {dó V : Int} {now : Bool} {dd : Int} {Dp' np' : Nat} {f : FuncId} {args : Array Value} {x : Value} (h : PW w0 w ab lb kb c r wb xb x0 x1 x2 x3 k0 lz Dp np m D n ma dó V now dd) (hc : Calls Try.prog f args w (PLEnd w0 ab lb kb c r x0 x1 x2 x3 k0 lz (dsel x0 x1 x2 x3 Dp') np' (nn lz) x w)) : Calls Try.prog f args w fun e w' => e = .returned x ∧ PW w0 w' ab lb kb c r wb xb x0 x1 x2 x3 k0 lz Dp' np' (nn lz) D n ma dó V now dd ∧ Upd [r, ab] w w' :=
  hc.mono fun _ _ ⟨he, hp, hu⟩ => ⟨he, ⟨hp, hu.heap h.hw h.ow.out, hu.heap h.hx h.ox.out, h.ow, h.ox, h.ne⟩, hu⟩
theorem PW.swap_yesU {w0 w : World} {ab lb kb c r wb xb : Nat} {x0 x1 x2 x3 : Option Addr} {k0 : Nat} {lz : Bool} {Dp np m D n ma : Nat} {dó V : Int} {now : Bool} {dd : Int} (h : PW w0 w ab lb kb c r wb xb x0 x1 x2 x3 k0 lz Dp np m D n ma dó V now dd) (hv : np ≤ 1000) (z : Nat) : Calls Try.prog 15 #[.pointer (some ⟨r, 0, none⟩), .int .u64 np, .pointer (dsel x0 x1 x2 x3 z)] w fun e w' => e = .returned (.bool true) ∧ PW w0 w' ab lb kb c r wb xb x0 x1 x2 x3 k0 lz z (np + 1) (nn lz) D n ma dó V now dd ∧ Upd [r, ab] w w' := by
  refine h.stepU ?_
  have := h.pl.Swap_yes (by omega) (dsel x0 x1 x2 x3 z)
  rwa [show ((np + 1 : Nat) : Int) = (np : Int) + 1 by omega]
end Go.Proofs.Ytmmnheobpbmniaa
