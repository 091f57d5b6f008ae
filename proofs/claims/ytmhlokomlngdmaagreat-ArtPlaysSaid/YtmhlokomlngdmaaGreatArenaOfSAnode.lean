/- The contracts of package arena's arenas of one type: what their functions compute. -/
import Derived.Test.YtmhlokomlngdmaaGreatPool
import Derived.Test.YtmhlokomlngdmaaGreatArenaG
import Derived.StillTailTactics
namespace Go.Proofs.YtmhlokomlngdmaaGreat
open Go.RowKit
namespace AAnode
/-- An arena stands in memory: its own block a, its pool's block p, its map's block m, which has these entries. -/
def ArenaIs (w : World) (a : Nat) (p : Option Addr) (m : Nat) (L : List Ent) (c : Nat) : Prop :=
  a ≠ m ∧ w.heap[a]? = some (.cells #[.pointer p, .map (some m)] 125) ∧ w.heap[m]? = some (.map (ents L) c)
theorem ArenaIs.cells {w : World} {a : Nat} {p : Option Addr} {m : Nat} {L : List Ent} {c : Nat} (h : ArenaIs w a p m L c) :
    w.cell? ⟨a, 0, none⟩ = some (.pointer p) ∧ w.cell? ⟨a, 1, none⟩ = some (.map (some m)) := by
  obtain ⟨_, h1, _⟩ := h
  exact ⟨by rw [cell_of_heap h1]; rfl, by rw [cell_of_heap h1]; rfl⟩
theorem ArenaIs.upd {S : List Nat} {w w' : World} {a : Nat} {p : Option Addr} {m : Nat} {L : List Ent} {c : Nat} (h : ArenaIs w a p m L c) (hu : Upd S w w') (ha : a ∉ S) (hm : m ∉ S) : ArenaIs w' a p m L c :=
  ⟨h.1, hu.heap h.2.1 ha, hu.heap h.2.2 hm⟩
theorem ArenaIs.below {w w' : World} {a : Nat} {p : Option Addr} {m : Nat} {L : List Ent} {c : Nat} (h : ArenaIs w a p m L c) (hb : Below w.heap.size w w') : ArenaIs w' a p m L c :=
  h.upd (Upd.of_below (S := []) hb) (by simp) (by simp)
theorem aNew_any (p : Option Addr) (w : World) :
    Calls Tryz.prog 28 #[.pointer p] w fun e w' => e = .returned (.pointer (some ⟨w.heap.size + 1, 0, none⟩)) ∧ Below w.heap.size w w' ∧ ArenaIs w' (w.heap.size + 1) p w.heap.size [] 0 ∧ w'.heap.size = w.heap.size + 2 := by
  have hmm := @run_makeMap Tryz.prog
  go_enter Tryz.func28, Tryz.ntmps28
  go_wp2
  go_ret
  refine ⟨rfl, ((Below.refl _ _).alloc (Nat.le_refl _) _).alloc (by simp) _, ⟨by omega, ?_, ?_⟩, by simp⟩
  · have := heap_alloc_new (w.alloc (.map #[] 0)) (.cells #[.pointer p, .map (some w.heap.size)] 125)
    simpa using this
  · exact heap_alloc_old _ (heap_alloc_new w (.map #[] 0))
theorem aLive_any (a : Nat) (p : Option Addr) (m : Nat) (L : List Ent) (c : Nat) (w : World) (h : ArenaIs w a p m L c) :
    Calls Tryz.prog 49 #[.pointer (some ⟨a, 0, none⟩)] w fun e w' => e = .returned (.int .i64 L.length) ∧ Below w.heap.size w w' := by
  have h1 := h.cells.2
  have hlen := run_len (P := Tryz.prog) (ty := 3) Tryz.underlying123 h.2.2
  clear h
  go_enter Tryz.func49, Tryz.ntmps49
  go_wp2
  go_ret
  exact ⟨rfl, Below.refl _ _⟩
theorem aLive_nil (w : World) : Calls Tryz.prog 49 #[.pointer none] w fun e w' => e = .returned (.int .i64 0) ∧ Below w.heap.size w w' := by
  go_enter Tryz.func49, Tryz.ntmps49
  go_wp2
  go_ret
  exact ⟨rfl, Below.refl _ _⟩
theorem aFind_nil (hs : Int) (hg : Int) (w : World) :
    Calls Tryz.prog 70 #[.pointer none, .agg #[.int .i64 hs, .int .u64 hg]] w fun e w' => e = .returned (.tuple #[.pointer none, .bool false]) ∧ Below w.heap.size w w' := by
  go_enter Tryz.func70, Tryz.ntmps70
  go_wp2
  go_ret2
  exact ⟨rfl, (Below.refl _ _).alloc (Nat.le_refl _) _⟩
theorem aFind_none (a : Nat) (p : Option Addr) (m : Nat) (L : List Ent) (c : Nat) (hs hg : Int) (w : World) (h : ArenaIs w a p m L c) (hv : val? L hs = none) :
    Calls Tryz.prog 70 #[.pointer (some ⟨a, 0, none⟩), .agg #[.int .i64 hs, .int .u64 hg]] w fun e w' => e = .returned (.tuple #[.pointer none, .bool false]) ∧ Below w.heap.size w w' := by
  have h1 := h.cells.2
  have ha : a < w.heap.size := block_lt_of_cell h1
  have hlk : ∀ n, (Instr.lookup 123 (.map (some m)) (.int .i64 hs) true).run Tryz.prog ((w.alloc (.cells #[.int .i64 hs, .int .u64 hg] 77)).drewN n) = .ok (.tuple #[.pointer none, .bool false]) ((w.alloc (.cells #[.int .i64 hs, .int .u64 hg] 77)).drewN n) := by
    intro n
    have := run_lookup_ok (P := Tryz.prog) (w := (w.alloc (.cells #[.int .i64 hs, .int .u64 hg] 77)).drewN n) (z := .pointer none) hs Tryz.underlying123 Tryz.underlying3 (heap_alloc_old _ h.2.2) (by kernel_rfl)
    rw [hv] at this
    exact this
  clear h
  go_enter Tryz.func70, Tryz.ntmps70
  go_wp2
  go_quiet (fail)
  go_wp2
  go_quiet (fail)
  go_wp2
  go_ret2
  exact ⟨rfl, below_drewN (below_drewN ((Below.refl _ _).alloc (Nat.le_refl _) _) _) _⟩
theorem aFind_some (a : Nat) (p : Option Addr) (m : Nat) (L : List Ent) (c : Nat) (hs hg : Int) (b : Nat) (g : Int) (w : World) (h : ArenaIs w a p m L c) (hv : val? L hs = some (.pointer (some ⟨b, 0, none⟩))) (hb : w.cell? ⟨b, 0, none⟩ = some (.int .u64 g)) :
    Calls Tryz.prog 70 #[.pointer (some ⟨a, 0, none⟩), .agg #[.int .i64 hs, .int .u64 hg]] w fun e w' => e = .returned (.tuple #[.pointer (some ⟨b, 0, none⟩), .bool (g == hg)]) ∧ Below w.heap.size w w' := by
  have h1 := h.cells.2
  have ha : a < w.heap.size := block_lt_of_cell h1
  have hbl : b < w.heap.size := block_lt_of_cell hb
  have hlk : ∀ n, (Instr.lookup 123 (.map (some m)) (.int .i64 hs) true).run Tryz.prog ((w.alloc (.cells #[.int .i64 hs, .int .u64 hg] 77)).drewN n) = .ok (.tuple #[.pointer (some ⟨b, 0, none⟩), .bool true]) ((w.alloc (.cells #[.int .i64 hs, .int .u64 hg] 77)).drewN n) := by
    intro n
    have := run_lookup_ok (P := Tryz.prog) (w := (w.alloc (.cells #[.int .i64 hs, .int .u64 hg] 77)).drewN n) (z := .pointer none) hs Tryz.underlying123 Tryz.underlying3 (heap_alloc_old _ h.2.2) (by kernel_rfl)
    rw [hv] at this
    exact this
  clear h
  go_enter Tryz.func70, Tryz.ntmps70
  go_wp2
  go_quiet (fail)
  go_wp2
  go_quiet (fail)
  go_wp2
  go_ret2
  exact ⟨rfl, below_drewN (below_drewN ((Below.refl _ _).alloc (Nat.le_refl _) _) _) _⟩
theorem aGet_nil (hs : Int) (hg : Int) (w : World) :
    Calls Tryz.prog 51 #[.pointer none, .agg #[.int .i64 hs, .int .u64 hg]] w fun e w' => e = .returned (.tuple #[.pointer none, .bool false]) ∧ Below w.heap.size w w' := by
  go_enter Tryz.func51, Tryz.ntmps51
  go_wp2_with fail
  refine (aFind_nil hs hg _).mono ?_
  rintro e w1 ⟨rfl, hb⟩
  go_wp2_with fail
  go_ret2
  exact ⟨rfl, ((Below.refl _ _).alloc (Nat.le_refl _) _).trans (hb.mono (by simp))⟩
theorem aGet_none (a : Nat) (p : Option Addr) (m : Nat) (L : List Ent) (c : Nat) (hs hg : Int) (w : World) (h : ArenaIs w a p m L c) (hv : val? L hs = none) :
    Calls Tryz.prog 51 #[.pointer (some ⟨a, 0, none⟩), .agg #[.int .i64 hs, .int .u64 hg]] w fun e w' => e = .returned (.tuple #[.pointer none, .bool false]) ∧ Below w.heap.size w w' := by
  go_enter Tryz.func51, Tryz.ntmps51
  go_wp2_with fail
  refine (aFind_none a p m L c hs hg _ (h.below ((Below.refl _ _).alloc (Nat.le_refl _) _)) hv).mono ?_
  rintro e w1 ⟨rfl, hb⟩
  go_wp2_with fail
  go_ret2
  exact ⟨rfl, ((Below.refl _ _).alloc (Nat.le_refl _) _).trans (hb.mono (by simp))⟩
theorem aGet_some (a : Nat) (p : Option Addr) (m : Nat) (L : List Ent) (c : Nat) (hs hg : Int) (b : Nat) (g : Int) (w : World) (h : ArenaIs w a p m L c) (hv : val? L hs = some (.pointer (some ⟨b, 0, none⟩))) (hb : w.cell? ⟨b, 0, none⟩ = some (.int .u64 g)) :
    Calls Tryz.prog 51 #[.pointer (some ⟨a, 0, none⟩), .agg #[.int .i64 hs, .int .u64 hg]] w fun e w' => e = .returned (.tuple #[.pointer (if g = hg then some ⟨b, 1, none⟩ else none), .bool (g == hg)]) ∧ Below w.heap.size w w' := by
  have hbl : b < w.heap.size := block_lt_of_cell hb
  by_cases hgg : g = hg
  · subst hgg
    go_enter Tryz.func51, Tryz.ntmps51
    go_wp2_with fail
    refine (aFind_some a p m L c hs g b g _ (h.below ((Below.refl _ _).alloc (Nat.le_refl _) _)) hv (keep ((Below.refl _ _).alloc (Nat.le_refl _) _) hb)).mono ?_
    rintro e w1 ⟨rfl, hb1⟩
    go_wp2_with fail
    go_ret2
    exact ⟨by simp, ((Below.refl _ _).alloc (Nat.le_refl _) _).trans (hb1.mono (by simp))⟩
  · have hne : (g == hg) = false := by simpa using hgg
    go_enter Tryz.func51, Tryz.ntmps51
    go_wp2_with fail
    refine (aFind_some a p m L c hs hg b g _ (h.below ((Below.refl _ _).alloc (Nat.le_refl _) _)) hv (keep ((Below.refl _ _).alloc (Nat.le_refl _) _) hb)).mono ?_
    rintro e w1 ⟨rfl, hb1⟩
    go_wp2_with fail
    go_ret2
    exact ⟨by simp, ((Below.refl _ _).alloc (Nat.le_refl _) _).trans (hb1.mono (by simp))⟩
theorem aAlloc_nil (qp qv : ByteArray) (qh : Bool) (qk : Option Addr) (w : World) :
    Calls Tryz.prog 29 #[.pointer none, .agg #[.string qp, .string qv, .bool qh, .pointer qk]] w fun e w' => e = .returned (.tuple #[.agg #[.int .i64 0, .int .u64 0], .int .i64 2]) ∧ Below w.heap.size w w' := by
  go_enter Tryz.func29, Tryz.ntmps29
  go_wp2
  exact bodyPost_ret (v := .tuple #[.agg #[.int .i64 0, .int .u64 0], .int .i64 2]) (by simp [results, Tryz.results29, go_sem]) rfl ⟨rfl, ((Below.refl _ _).alloc (Nat.le_refl _) _).alloc (by simp) _⟩
theorem aAlloc_no (a m : Nat) (pv : Option Addr) (L : List Ent) (c : Nat) (qp qv : ByteArray) (qh : Bool) (qk : Option Addr) (w : World) (h : ArenaIs w a pv m L c) (hT : ∀ W, Below w.heap.size w W → Calls Tryz.prog 60 #[.pointer pv] W fun e w' => e = .returned (.tuple #[.agg #[.int .i64 0, .int .u64 0], .bool false]) ∧ Below W.heap.size W w') :
    Calls Tryz.prog 29 #[.pointer (some ⟨a, 0, none⟩), .agg #[.string qp, .string qv, .bool qh, .pointer qk]] w fun e w' => e = .returned (.tuple #[.agg #[.int .i64 0, .int .u64 0], .int .i64 5]) ∧ Below w.heap.size w w' := by
  have h1 := h.cells.1
  have ha : a < w.heap.size := block_lt_of_cell h1
  have hB0 : Below w.heap.size w (w.alloc (.cells #[.string qp, .string qv, .bool qh, .pointer qk] 75)) := (Below.refl _ _).alloc (Nat.le_refl _) _
  have hz0 : (w.alloc (.cells #[.string qp, .string qv, .bool qh, .pointer qk] 75)).heap.size = w.heap.size + 1 := by simp
  replace hT := Lib.hid hT
  clear h
  go_enter Tryz.func29, Tryz.ntmps29
  go_wp2_with fail
  refine (hT.out _ (((Below.refl _ _).alloc (Nat.le_refl _) _).alloc (by simp) _)).mono ?_
  rintro e w1 ⟨rfl, hb1⟩
  have hs0 := hb1.size
  simp at hs0
  have hs1 : w.heap.size + 1 < w1.heap.size := by omega
  clear hs0
  obtain ⟨hc, hf⟩ := bcell hb1
  have c0 : w1.cell? ⟨w.heap.size + 1, 0, none⟩ = some (.int .i64 0) := by rw [hc _ _ (by simp)]; go_simp
  have c1 : w1.cell? ⟨w.heap.size + 1, 1, none⟩ = some (.int .u64 0) := by rw [hc _ _ (by simp)]; go_simp
  have f0 : w1.frozen? ⟨w.heap.size + 1, 0, none⟩ = false := by rw [hf _ _ (by simp)]; go_simp
  have f1 : w1.frozen? ⟨w.heap.size + 1, 1, none⟩ = false := by rw [hf _ _ (by simp)]; go_simp
  have hB : Below w.heap.size w w1 := (((Below.refl _ _).alloc (Nat.le_refl _) _).alloc (by simp) _).trans (hb1.mono (by simp; omega))
  clear hB0 hz0
  clear hc hf hb1
  go_wp2_with fail
  refine bodyPost_ret (v := .tuple #[.agg #[.int .i64 0, .int .u64 0], .int .i64 5]) (by simp [results, Tryz.results29, go_sem, c0, c1, hs1]) rfl ⟨rfl, ?_⟩
  exact ((hB.setCell (p := ⟨w.heap.size + 1, 0, none⟩) (by simp) _).setCell (p := ⟨w.heap.size + 1, 1, none⟩) (by simp) _).alloc (by simp [World.setCell]; omega) _
theorem aAlloc_full (a p g f m : Nat) (L : List Ent) (c : Nat) (gens : List Int) (free : List Bool) (qp qv : ByteArray) (qh : Bool) (qk : Option Addr) (w : World) (h : ArenaIs w a (some ⟨p, 0, none⟩) m L c) (hp : PoolIs w p g f gens free) (hn : true ∉ free) :
    Calls Tryz.prog 29 #[.pointer (some ⟨a, 0, none⟩), .agg #[.string qp, .string qv, .bool qh, .pointer qk]] w fun e w' => e = .returned (.tuple #[.agg #[.int .i64 0, .int .u64 0], .int .i64 5]) ∧ Below w.heap.size w w' :=
  aAlloc_no a m _ L c qp qv qh qk w h (fun W hW => pTake_none p g f gens free W (hp.upd (Upd.of_below (S := []) hW) (by simp) (by simp) (by simp)) hn)
theorem aAlloc_nopool (a m : Nat) (L : List Ent) (c : Nat) (qp qv : ByteArray) (qh : Bool) (qk : Option Addr) (w : World) (h : ArenaIs w a none m L c) :
    Calls Tryz.prog 29 #[.pointer (some ⟨a, 0, none⟩), .agg #[.string qp, .string qv, .bool qh, .pointer qk]] w fun e w' => e = .returned (.tuple #[.agg #[.int .i64 0, .int .u64 0], .int .i64 5]) ∧ Below w.heap.size w w' :=
  aAlloc_no a m _ L c qp qv qh qk w h (fun W _ => pTake_nil W)
theorem aAlloc_some (a p g f m : Nat) (L : List Ent) (c : Nat) (gens : List Int) (free : List Bool) (qp qv : ByteArray) (qh : Bool) (qk : Option Addr) (w : World) (h : ArenaIs w a (some ⟨p, 0, none⟩) m L c) (hp : PoolIs w p g f gens free) (hn : true ∈ free)
    (hap : a ≠ p) (haf : a ≠ f) (hmp : m ≠ p) (hmf : m ≠ f) (hmg : m ≠ g) (hnew : val? L (free.idxOf true : Nat) = none) :
    Calls Tryz.prog 29 #[.pointer (some ⟨a, 0, none⟩), .agg #[.string qp, .string qv, .bool qh, .pointer qk]] w fun e w' => e = .returned (.tuple #[.agg #[.int .i64 (free.idxOf true), .int .u64 (gens.getD (free.idxOf true) 0)], .int .i64 0]) ∧
      Upd [p, f, m] w w' ∧ PoolIs w' p g f gens (free.set (free.idxOf true) false) ∧ ∃ b, w.heap.size ≤ b ∧ ArenaIs w' a (some ⟨p, 0, none⟩) m (L ++ [⟨(free.idxOf true : Nat), .pointer (some ⟨b, 0, none⟩), c⟩]) (c + 1) ∧
      w'.heap[b]? = some (.cells #[.int .u64 (gens.getD (free.idxOf true) 0), .string qp, .string qv, .bool qh, .pointer qk] 129) := by
  obtain ⟨v, hv⟩ : ∃ v, v = w := ⟨_, rfl⟩
  obtain ⟨w, hw⟩ : ∃ w, w = v.alloc (.cells #[.string qp, .string qv, .bool qh, .pointer qk] 75) := ⟨_, rfl⟩
  have hB0 : Below v.heap.size v w := by rw [hw]; exact (Below.refl _ _).alloc (Nat.le_refl _) _
  have hx0 : w.heap[v.heap.size]? = some (.cells #[.string qp, .string qv, .bool qh, .pointer qk] 75) := by rw [hw]; exact heap_alloc_new _ _
  have hzv : w.heap.size = v.heap.size + 1 := by rw [hw]; simp
  subst hv
  have hpv : p < v.heap.size := heap_lt hp.2.2.2.2.2.1
  have hfv : f < v.heap.size := heap_lt hp.2.2.2.2.2.2.2
  have hv1 := h.cells.1
  have hav : a < v.heap.size := block_lt_of_cell hv1
  replace h := h.below hB0
  replace hp := hp.below hB0
  have h1 := h.cells.1
  have ha : a < w.heap.size := block_lt_of_cell h1
  have hm : m < w.heap.size := heap_lt h.2.2
  have HP := Lib.hid hp
  have HA := Lib.hid h
  replace hw := Lib.hid hw
  replace hB0 := Lib.hid hB0
  replace hx0 := Lib.hid hx0
  replace hzv := Lib.hid hzv
  have HT := fun (W : World) (hW : PoolIs W p g f gens free) => pTake_some p g f gens free W hW hn
  replace HT := Lib.hid HT
  clear h hp
  generalize gens.getD (free.idxOf true) 0 = gv at *
  generalize free.idxOf true = i at *
  go_enter Tryz.func29, Tryz.ntmps29
  go_wp2_with fail
  rw [← hw.out, ← hzv.out]
  clear hv1 hav
  refine (HT.out _ (HP.out.below ((Below.refl _ _).alloc (Nat.le_refl _) _))).mono ?_
  clear HT
  rintro e w1 ⟨rfl, hu1, hp1⟩
  have hs0 := hu1.size
  simp at hs0
  have hs1 : w.heap.size < w1.heap.size := by omega
  clear hs0
  have hpl : p < w.heap.size := heap_lt HP.out.2.2.2.2.2.1
  have hfl : f < w.heap.size := heap_lt HP.out.2.2.2.2.2.2.2
  have b0 := hu1.heap (heap_alloc_new w (.cells #[.int .i64 0, .int .u64 0] 77)) (by simp; omega)
  have c0 : w1.cell? ⟨w.heap.size, 0, none⟩ = some (.int .i64 0) := by rw [cell_of_heap b0]; rfl
  have c1 : w1.cell? ⟨w.heap.size, 1, none⟩ = some (.int .u64 0) := by rw [cell_of_heap b0]; rfl
  have f0 : w1.frozen? ⟨w.heap.size, 0, none⟩ = false := frozen_of_heap b0 _
  have f1 : w1.frozen? ⟨w.heap.size, 1, none⟩ = false := frozen_of_heap b0 _
  have hx1 := hu1.heap (heap_alloc_old _ hx0.out) (by simp; omega)
  have x0 : w1.cell? ⟨v.heap.size, 0, none⟩ = some (.string qp) := by rw [cell_of_heap hx1]; rfl
  have x1 : w1.cell? ⟨v.heap.size, 1, none⟩ = some (.string qv) := by rw [cell_of_heap hx1]; rfl
  have x2 : w1.cell? ⟨v.heap.size, 2, none⟩ = some (.bool qh) := by rw [cell_of_heap hx1]; rfl
  have x3 : w1.cell? ⟨v.heap.size, 3, none⟩ = some (.pointer qk) := by rw [cell_of_heap hx1]; rfl
  have hvl : v.heap.size < w1.heap.size := heap_lt hx1
  replace hx1 := Lib.hid hx1
  have A1 := (HA.out.below ((Below.refl _ _).alloc (Nat.le_refl _) (.cells #[.int .i64 0, .int .u64 0] 77))).upd hu1 (by simp [hap, haf]) (by simp [hmp, hmf])
  have hU : Upd [p, f] w w1 := ((Upd.refl _ _).alloc _).trans hu1
  have a1 := A1.cells.2
  have ha1 : a < w1.heap.size := by omega
  have HA1 := Lib.hid A1
  have HP1 := Lib.hid hp1
  have HU := Lib.hid hU
  have HB0 := Lib.hid b0
  have hm1 : ((w1.alloc (.cells #[.int .i64 i, .int .u64 gv] 77)).alloc (.cells #[.int .u64 gv, .string qp, .string qv, .bool qh, .pointer qk] 129)).drew.heap[m]? = some (.map (ents L) c) := heap_alloc_old _ (heap_alloc_old _ A1.2.2)
  have hup := run_update (P := Tryz.prog) (i : Int) (.pointer (some ⟨w1.heap.size + 1, 0, none⟩)) Tryz.underlying123 Tryz.underlying3 hm1
  rw [hnew] at hup
  simp only [Option.isSome_none, Bool.false_eq_true, if_false] at hup
  clear hu1 hp1 A1 hU b0 hm1
  go_wp2_with fail
  go_region
  clear hup
  have E1 : (L ++ [(⟨i, .pointer (some ⟨w1.heap.size + 1, 0, none⟩), c⟩ : Ent)]) = setEnt (↑i) (Value.pointer (some { block := w1.heap.size + 1, off := 0 })) c L := (setEnt_none _ _ _ _ hnew).symm
  rw [← E1]
  have hU5 : Upd [p, f, m] w (World.setObj' ((w1.alloc (.cells #[.int .i64 i, .int .u64 gv] 77)).alloc (.cells #[.int .u64 gv, .string qp, .string qv, .bool qh, .pointer qk] 129)).drew m (Obj.map (ents (L ++ [(⟨i, .pointer (some ⟨w1.heap.size + 1, 0, none⟩), c⟩ : Ent)])) (c + 1))) :=
    ((((HU.out.mono (by simp +contextual)).alloc _).alloc _).drew).setObj (by simp) _
  have h5 : ∀ b o, ((w1.alloc (.cells #[.int .i64 i, .int .u64 gv] 77)).alloc (.cells #[.int .u64 gv, .string qp, .string qv, .bool qh, .pointer qk] 129)).heap[b]? = some o → b ≠ m → (World.setObj' ((w1.alloc (.cells #[.int .i64 i, .int .u64 gv] 77)).alloc (.cells #[.int .u64 gv, .string qp, .string qv, .bool qh, .pointer qk] 129)).drew m (Obj.map (ents (L ++ [(⟨i, .pointer (some ⟨w1.heap.size + 1, 0, none⟩), c⟩ : Ent)])) (c + 1))).heap[b]? = some o := by
    intro b o hb hn
    rw [heap_setObj_other _ hn]
    exact hb
  have hm5 : (World.setObj' ((w1.alloc (.cells #[.int .i64 i, .int .u64 gv] 77)).alloc (.cells #[.int .u64 gv, .string qp, .string qv, .bool qh, .pointer qk] 129)).drew m (Obj.map (ents (L ++ [(⟨i, .pointer (some ⟨w1.heap.size + 1, 0, none⟩), c⟩ : Ent)])) (c + 1))).heap[m]? = some (.map (ents (L ++ [(⟨i, .pointer (some ⟨w1.heap.size + 1, 0, none⟩), c⟩ : Ent)])) (c + 1)) :=
    heap_setObj_same _ (by simp; omega)
  generalize World.setObj' ((w1.alloc (.cells #[.int .i64 i, .int .u64 gv] 77)).alloc (.cells #[.int .u64 gv, .string qp, .string qv, .bool qh, .pointer qk] 129)).drew m (Obj.map (ents (L ++ [(⟨i, .pointer (some ⟨w1.heap.size + 1, 0, none⟩), c⟩ : Ent)])) (c + 1)) = w5 at *
  have b4 := h5 w.heap.size (.cells #[.int .i64 0, .int .u64 0] 77) (heap_alloc_old _ (heap_alloc_old _ HB0.out)) (by omega)
  have b6 := h5 w1.heap.size (.cells #[.int .i64 i, .int .u64 gv] 77) (heap_alloc_old _ (heap_alloc_new _ _)) (by omega)
  have b7 := h5 (w1.heap.size + 1) (.cells #[.int .u64 gv, .string qp, .string qv, .bool qh, .pointer qk] 129) (by have := heap_alloc_new (w1.alloc (.cells #[.int .i64 i, .int .u64 gv] 77)) (.cells #[.int .u64 gv, .string qp, .string qv, .bool qh, .pointer qk] 129); simpa using this) (by omega)
  have b8 := h5 a _ (heap_alloc_old _ (heap_alloc_old _ HA1.out.2.1)) HA1.out.1
  have p1 := HP1.out
  have d0 : w5.cell? ⟨w1.heap.size, 0, none⟩ = some (.int .i64 i) := by rw [cell_of_heap b6]; rfl
  have d1 : w5.cell? ⟨w1.heap.size, 1, none⟩ = some (.int .u64 gv) := by rw [cell_of_heap b6]; rfl
  have e0 : w5.cell? ⟨w.heap.size, 0, none⟩ = some (.int .i64 0) := by rw [cell_of_heap b4]; rfl
  have e1 : w5.cell? ⟨w.heap.size, 1, none⟩ = some (.int .u64 0) := by rw [cell_of_heap b4]; rfl
  have g0 : w5.frozen? ⟨w.heap.size, 0, none⟩ = false := frozen_of_heap b4 _
  have g1 : w5.frozen? ⟨w.heap.size, 1, none⟩ = false := frozen_of_heap b4 _
  have HP5 : PoolIs w5 p g f gens (free.set i false) := by
    obtain ⟨q1, q2, q3, q4, q5, q6, q7, q8⟩ := p1
    exact ⟨q1, q2, q3, q4, q5, h5 _ _ (heap_alloc_old _ (heap_alloc_old _ q6)) (fun e => hmp e.symm), h5 _ _ (heap_alloc_old _ (heap_alloc_old _ q7)) (fun e => hmg e.symm), h5 _ _ (heap_alloc_old _ (heap_alloc_old _ q8)) (fun e => hmf e.symm)⟩
  have H5 := Lib.hid HP5
  have HM := Lib.hid hm5
  have H7 := Lib.hid b7
  have H8 := Lib.hid b8
  have HU5 := Lib.hid hU5
  clear HP5 hm5 b7 b8 b4 b6 h5 p1 hU5 E1 c0 c1 f0 f1 a1 h1
  go_wp2_with fail
  have hsz : w.heap.size < w5.heap.size := block_lt_of_cell e0
  refine bodyPost_ret (v := .tuple #[.agg #[.int .i64 i, .int .u64 gv], .int .i64 0]) (by simp [results, Tryz.results29, go_sem, e0, e1]) rfl ⟨rfl, ?_, ?_, w1.heap.size + 1, by have := hzv.out; omega, ?_, ?_⟩
  · exact ((Upd.of_below (S := []) hB0.out).mono (by simp)).trans <| (HU5.out.setNew (p := ⟨w.heap.size, 0, none⟩) (Nat.le_refl _) _).setNew (p := ⟨w.heap.size, 1, none⟩) (Nat.le_refl _) _
  all_goals
    have hq : Upd [w.heap.size] w5 ((w5.setCell { block := w.heap.size, off := 0 } (Value.int IntKind.i64 ↑i)).setCell { block := w.heap.size, off := 1 } (Value.int IntKind.u64 gv)) := ((Upd.refl _ _).setCell (p := ⟨w.heap.size, 0, none⟩) (by simp) _).setCell (p := ⟨w.heap.size, 1, none⟩) (by simp) _
  · have hgl : g < w.heap.size := heap_lt HP.out.2.2.2.2.2.2.1
    exact H5.out.upd hq (by simp; omega) (by simp; omega) (by simp; omega)
  · exact ⟨HA1.out.1, hq.heap H8.out (by simp; omega), hq.heap HM.out (by simp; omega)⟩
  · exact hq.heap H7.out (by simp; omega)
theorem aRelease_nil (hs : Int) (hg : Int) (w : World) :
    Calls Tryz.prog 55 #[.pointer none, .agg #[.int .i64 hs, .int .u64 hg]] w fun e w' => e = .returned (.bool false) ∧ Below w.heap.size w w' := by
  go_enter Tryz.func55, Tryz.ntmps55
  go_wp2_with fail
  refine (aFind_nil hs hg _).mono ?_
  rintro e w1 ⟨rfl, hb⟩
  go_wp2_with fail
  go_ret
  exact ⟨rfl, ((Below.refl _ _).alloc (Nat.le_refl _) _).trans (hb.mono (by simp))⟩
theorem aRelease_none (a : Nat) (p : Option Addr) (m : Nat) (L : List Ent) (c : Nat) (hs hg : Int) (w : World) (h : ArenaIs w a p m L c) (hv : val? L hs = none) :
    Calls Tryz.prog 55 #[.pointer (some ⟨a, 0, none⟩), .agg #[.int .i64 hs, .int .u64 hg]] w fun e w' => e = .returned (.bool false) ∧ Below w.heap.size w w' := by
  go_enter Tryz.func55, Tryz.ntmps55
  go_wp2_with fail
  refine (aFind_none a p m L c hs hg _ (h.below ((Below.refl _ _).alloc (Nat.le_refl _) _)) hv).mono ?_
  rintro e w1 ⟨rfl, hb⟩
  go_wp2_with fail
  go_ret
  exact ⟨rfl, ((Below.refl _ _).alloc (Nat.le_refl _) _).trans (hb.mono (by simp))⟩
theorem aRelease_dead (a : Nat) (p : Option Addr) (m : Nat) (L : List Ent) (c : Nat) (hs hg : Int) (b : Nat) (g : Int) (w : World) (h : ArenaIs w a p m L c) (hv : val? L hs = some (.pointer (some ⟨b, 0, none⟩))) (hb : w.cell? ⟨b, 0, none⟩ = some (.int .u64 g)) (hgg : (g == hg) = false) :
    Calls Tryz.prog 55 #[.pointer (some ⟨a, 0, none⟩), .agg #[.int .i64 hs, .int .u64 hg]] w fun e w' => e = .returned (.bool false) ∧ Below w.heap.size w w' := by
  go_enter Tryz.func55, Tryz.ntmps55
  go_wp2_with fail
  refine (aFind_some a p m L c hs hg b g _ (h.below ((Below.refl _ _).alloc (Nat.le_refl _) _)) hv (keep ((Below.refl _ _).alloc (Nat.le_refl _) _) hb)).mono ?_
  rintro e w1 ⟨rfl, hb1⟩
  go_wp2_with fail
  go_ret
  exact ⟨rfl, ((Below.refl _ _).alloc (Nat.le_refl _) _).trans (hb1.mono (by simp))⟩
set_option maxRecDepth 100000 in
theorem aRelease_some (a p g f m : Nat) (L : List Ent) (c : Nat) (gens : List Int) (free : List Bool) (i : Nat) (hg : Int) (b : Nat) (w : World) (h : ArenaIs w a (some ⟨p, 0, none⟩) m L c) (hp : PoolIs w p g f gens free)
    (hv : val? L (i : Nat) = some (.pointer (some ⟨b, 0, none⟩))) (hb : w.cell? ⟨b, 0, none⟩ = some (.int .u64 hg)) (hfr : free[i]? = some false) (hap : a ≠ p) (haf : a ≠ f) (hag : a ≠ g) (hmp : m ≠ p) (hmf : m ≠ f) (hmg : m ≠ g) :
    Calls Tryz.prog 55 #[.pointer (some ⟨a, 0, none⟩), .agg #[.int .i64 i, .int .u64 hg]] w fun e w' => e = .returned (.bool true) ∧ Upd [p, g, f, m] w w' ∧
      PoolIs w' p g f (gens.set i (IntKind.u64.wrap (gens.getD i 0 + 1))) (free.set i true) ∧ ArenaIs w' a (some ⟨p, 0, none⟩) m (dropEnt i L) c := by
  have HP := Lib.hid hp
  have HA := Lib.hid h
  have HG := fun (W : World) (hW : PoolIs W p g f gens free) => pGive_any p g f gens free i W hW hfr
  replace HG := Lib.hid HG
  clear hp h
  go_enter Tryz.func55, Tryz.ntmps55
  go_wp2_with fail
  refine (aFind_some a (some ⟨p, 0, none⟩) m L c i hg b hg _ (HA.out.below ((Below.refl _ _).alloc (Nat.le_refl _) _)) hv (keep ((Below.refl _ _).alloc (Nat.le_refl _) _) hb)).mono ?_
  rintro e w1 ⟨rfl, hb1⟩
  have hB1 : Below w.heap.size w w1 := ((Below.refl _ _).alloc (Nat.le_refl _) _).trans (hb1.mono (by simp))
  have b0 := Below.heap' hb1 (heap_alloc_new w (.cells #[.int .i64 i, .int .u64 hg] 77))
  have A1 := HA.out.below hB1
  have P1 := HP.out.below hB1
  have a1 := A1.cells.2
  have d0 : w1.cell? ⟨w.heap.size, 0, none⟩ = some (.int .i64 i) := by rw [cell_of_heap b0]; rfl
  have hmw : m < w1.heap.size := heap_lt A1.2.2
  have haw : a < w.heap.size := heap_lt HA.out.2.1
  have hmw0 : m < w.heap.size := heap_lt HA.out.2.2
  have hpw0 : p < w.heap.size := heap_lt HP.out.2.2.2.2.2.1
  have hgw0 : g < w.heap.size := heap_lt HP.out.2.2.2.2.2.2.1
  have hfw0 : f < w.heap.size := heap_lt HP.out.2.2.2.2.2.2.2
  have hdel := run_delete (P := Tryz.prog) (KT := 3) (ty := 0) (w := w1.drew) (i : Int) Tryz.underlying123 Tryz.underlying3 A1.2.2
  have HB1 := Lib.hid hB1
  have B0 := Lib.hid b0
  have HA1 := Lib.hid A1
  have HP1 := Lib.hid P1
  clear hb1 hB1 b0 A1 P1 hb hv
  go_wp2_with fail
  go_region
  clear hdel
  have hU5 : Upd [p, g, f, m] w (World.setObj' w1.drew m (Obj.map (ents (dropEnt (↑i) L)) c)) := ((Upd.of_below HB1.out).drew).setObj (by simp) _
  have hm5 : (World.setObj' w1.drew m (Obj.map (ents (dropEnt (↑i) L)) c)).heap[m]? = some (.map (ents (dropEnt i L)) c) := heap_setObj_same _ hmw
  have h5 : ∀ b o, w1.heap[b]? = some o → b ≠ m → (World.setObj' w1.drew m (Obj.map (ents (dropEnt (↑i) L)) c)).heap[b]? = some o := by
    intro b o hb hn
    rw [heap_setObj_other _ hn]
    exact hb
  generalize World.setObj' w1.drew m (Obj.map (ents (dropEnt (↑i) L)) c) = w5 at *
  have b1 := h5 w.heap.size _ B0.out (by omega)
  have b2 := h5 a _ HA1.out.2.1 HA1.out.1
  have HP5 : PoolIs w5 p g f gens free := by
    obtain ⟨q1, q2, q3, q4, q5, q6, q7, q8⟩ := HP1.out
    exact ⟨q1, q2, q3, q4, q5, h5 _ _ q6 (fun e => hmp e.symm), h5 _ _ q7 (fun e => hmg e.symm), h5 _ _ q8 (fun e => hmf e.symm)⟩
  have HA5 : ArenaIs w5 a (some ⟨p, 0, none⟩) m (dropEnt i L) c := ⟨HA1.out.1, b2, hm5⟩
  have c0 : w5.cell? ⟨a, 0, none⟩ = some (.pointer (some ⟨p, 0, none⟩)) := HA5.cells.1
  have c1 : w5.cell? ⟨w.heap.size, 0, none⟩ = some (.int .i64 i) := by rw [cell_of_heap b1]; rfl
  have H5 := Lib.hid HP5
  have H6 := Lib.hid HA5
  have H7 := Lib.hid hU5
  clear HP5 HA5 hU5 hm5 h5 b1 b2 a1 d0
  go_wp2_with fail
  go_still_tail 6, (by kernel_rfl)
  change wpList _ _ _ _ _ w5.drew
  have H8 : Hid (PoolIs w5.drew p g f gens free) := H5.out
  go_wp2_with fail
  refine (HG.out _ H8.out).mono ?_
  rintro e w6 ⟨rfl, hu6, hp6⟩
  go_wp2_with fail
  go_ret
  refine ⟨rfl, ?_, hp6, ?_⟩
  · exact (H7.out.drew).trans (hu6.mono (by simp +contextual))
  · have h9 : ArenaIs w5.drew a (some ⟨p, 0, none⟩) m (dropEnt i L) c := H6.out
    exact h9.upd hu6 (by simp [hap, haf, hag]) (by simp [hmp, hmf, hmg])
/-! ### The same, with what stands in the arena -/
def AG (w : World) (R : List Nat) (p : Option Addr) (A : AR) : Prop := ArenaG 125 129 w R p A
theorem AG.is {w : World} {R : List Nat} {p : Option Addr} {A : AR} (h : AG w R p A) : ArenaIs w A.a p A.m (A.L.map AEnt.ent) A.c := ⟨h.1, h.2.1, h.2.2.1⟩
theorem gLive (A : AR) (R : List Nat) (p : Option Addr) (w : World) (h : AG w R p A) :
    Calls Tryz.prog 49 #[.pointer (some ⟨A.a, 0, none⟩)] w fun e w' => e = .returned (.int .i64 A.L.length) ∧ Below w.heap.size w w' := by
  have := aLive_any A.a p A.m (A.L.map AEnt.ent) A.c w h.is
  rwa [List.length_map] at this
theorem gNew (p : Option Addr) (R : List Nat) (w : World) :
    Calls Tryz.prog 28 #[.pointer p] w fun e w' => e = .returned (.pointer (some ⟨w.heap.size + 1, 0, none⟩)) ∧ Below w.heap.size w w' ∧ w'.heap.size = w.heap.size + 2 ∧ AG w' R p ⟨w.heap.size + 1, w.heap.size, [], 0⟩ :=
  (aNew_any p w).mono fun _ _ ⟨h1, h2, h3, h4⟩ => ⟨h1, h2, h4, h3.1, h3.2.1, h3.2.2, by simp, by simp, by simp⟩
/-- The thing of a handle that is alive. -/
theorem gGet_some (A : AR) (R : List Nat) (p : Option Addr) (hs hg : Int) (x : AEnt) (w : World) (h : AG w R p A) (hx : x ∈ A.L) (h1 : hs = (x.slot : Int)) (h2 : x.gen = hg) :
    Calls Tryz.prog 51 #[.pointer (some ⟨A.a, 0, none⟩), .agg #[.int .i64 hs, .int .u64 hg]] w fun e w' => e = .returned (.tuple #[.pointer (some ⟨x.blk, 1, none⟩), .bool true]) ∧ Below w.heap.size w w' := by
  have hb : w.cell? ⟨x.blk, 0, none⟩ = some (.int .u64 x.gen) := by rw [cell_of_heap (h.2.2.2.2.2 x hx).2]; rfl
  refine (aGet_some A.a p A.m _ A.c hs hg x.blk x.gen w h.is (val_some_of h.2.2.2.1 hx h1) hb).mono fun e w' ⟨he, hw⟩ => ⟨?_, hw⟩
  rw [he, h2]
  simp
theorem gGet_none (A : AR) (R : List Nat) (p : Option Addr) (hs hg : Int) (w : World) (h : AG w R p A) (hn : ∀ x, x ∈ A.L → ¬ (hs = (x.slot : Int) ∧ x.gen = hg)) :
    Calls Tryz.prog 51 #[.pointer (some ⟨A.a, 0, none⟩), .agg #[.int .i64 hs, .int .u64 hg]] w fun e w' => e = .returned (.tuple #[.pointer none, .bool false]) ∧ Below w.heap.size w w' := by
  by_cases hf : ∃ x, x ∈ A.L ∧ hs = (x.slot : Int)
  · obtain ⟨x, hx, h1⟩ := hf
    have hb : w.cell? ⟨x.blk, 0, none⟩ = some (.int .u64 x.gen) := by rw [cell_of_heap (h.2.2.2.2.2 x hx).2]; rfl
    have hne : ¬ x.gen = hg := fun e => hn x hx ⟨h1, e⟩
    refine (aGet_some A.a p A.m _ A.c hs hg x.blk x.gen w h.is (val_some_of h.2.2.2.1 hx h1) hb).mono fun e w' ⟨he, hw⟩ => ⟨?_, hw⟩
    rw [he, if_neg hne, beq_eq_false_iff_ne.2 hne]
  · exact aGet_none A.a p A.m _ A.c hs hg w h.is (find_none_of fun e he h1 => hf ⟨e, he, h1⟩)
theorem gRelease_none (A : AR) (R : List Nat) (p : Option Addr) (hs hg : Int) (w : World) (h : AG w R p A) (hn : ∀ x, x ∈ A.L → ¬ (hs = (x.slot : Int) ∧ x.gen = hg)) :
    Calls Tryz.prog 55 #[.pointer (some ⟨A.a, 0, none⟩), .agg #[.int .i64 hs, .int .u64 hg]] w fun e w' => e = .returned (.bool false) ∧ Below w.heap.size w w' := by
  by_cases hf : ∃ x, x ∈ A.L ∧ hs = (x.slot : Int)
  · obtain ⟨x, hx, h1⟩ := hf
    have hb : w.cell? ⟨x.blk, 0, none⟩ = some (.int .u64 x.gen) := by rw [cell_of_heap (h.2.2.2.2.2 x hx).2]; rfl
    have hne : ¬ x.gen = hg := fun e => hn x hx ⟨h1, e⟩
    exact aRelease_dead A.a p A.m _ A.c hs hg x.blk x.gen w h.is (val_some_of h.2.2.2.1 hx h1) hb (beq_eq_false_iff_ne.2 hne)
  · exact aRelease_none A.a p A.m _ A.c hs hg w h.is (find_none_of fun e he h1 => hf ⟨e, he, h1⟩)
theorem gRelease_some (A : AR) (p g f : Nat) (R : List Nat) (gens : List Int) (free : List Bool) (hs hg : Int) (x : AEnt) (w : World) (h : AG w R (some ⟨p, 0, none⟩) A) (hp : PoolIs w p g f gens free)
    (hx : x ∈ A.L) (h1 : hs = (x.slot : Int)) (h2 : x.gen = hg) (hfr : free[x.slot]? = some false) (hap : A.a ≠ p) (haf : A.a ≠ f) (hag : A.a ≠ g) (hmp : A.m ≠ p) (hmf : A.m ≠ f) (hmg : A.m ≠ g) (hR : p ∈ R ∧ g ∈ R ∧ f ∈ R ∧ A.m ∈ R) :
    Calls Tryz.prog 55 #[.pointer (some ⟨A.a, 0, none⟩), .agg #[.int .i64 hs, .int .u64 hg]] w fun e w' => e = .returned (.bool true) ∧ Upd [p, g, f, A.m] w w' ∧
      PoolIs w' p g f (gens.set x.slot (IntKind.u64.wrap (gens.getD x.slot 0 + 1))) (free.set x.slot true) ∧ AG w' R (some ⟨p, 0, none⟩) { A with L := A.L.filter fun e => e.slot ≠ x.slot } := by
  have hb : w.cell? ⟨x.blk, 0, none⟩ = some (.int .u64 hg) := by rw [cell_of_heap (h.2.2.2.2.2 x hx).2, h2]; rfl
  subst h1
  refine (aRelease_some A.a p g f A.m _ A.c gens free x.slot hg x.blk w h.is hp (val_some_of h.2.2.2.1 hx rfl) hb hfr hap haf hag hmp hmf hmg).mono fun e w' ⟨he, hu, hp', ha⟩ => ⟨he, hu, hp', ?_⟩
  have ha2 := ha.2.2
  rw [drop_ents h.2.2.2.1] at ha2
  exact ArenaG.filter h hu (by simp; exact ⟨hR.1, hR.2.1, hR.2.2.1, hR.2.2.2⟩) _ ha.2.1 ha2
theorem gAlloc_full (A : AR) (p g f : Nat) (R : List Nat) (gens : List Int) (free : List Bool) (qp qv : ByteArray) (qh : Bool) (qk : Option Addr) (w : World) (h : AG w R (some ⟨p, 0, none⟩) A) (hp : PoolIs w p g f gens free) (hn : true ∉ free) :
    Calls Tryz.prog 29 #[.pointer (some ⟨A.a, 0, none⟩), .agg #[.string qp, .string qv, .bool qh, .pointer qk]] w fun e w' => e = .returned (.tuple #[.agg #[.int .i64 0, .int .u64 0], .int .i64 5]) ∧ Below w.heap.size w w' :=
  aAlloc_full A.a p g f A.m _ A.c gens free qp qv qh qk w h.is hp hn
theorem gAlloc_some (A : AR) (p g f : Nat) (R : List Nat) (gens : List Int) (free : List Bool) (qp qv : ByteArray) (qh : Bool) (qk : Option Addr) (w : World) (h : AG w R (some ⟨p, 0, none⟩) A) (hp : PoolIs w p g f gens free) (hn : true ∈ free)
    (hap : A.a ≠ p) (haf : A.a ≠ f) (hmp : A.m ≠ p) (hmf : A.m ≠ f) (hmg : A.m ≠ g) (hR : p ∈ R ∧ f ∈ R ∧ A.m ∈ R) (hRl : ∀ r, r ∈ R → r < w.heap.size) (hnew : ∀ e, e ∈ A.L → e.slot ≠ free.idxOf true) :
    Calls Tryz.prog 29 #[.pointer (some ⟨A.a, 0, none⟩), .agg #[.string qp, .string qv, .bool qh, .pointer qk]] w fun e w' => e = .returned (.tuple #[.agg #[.int .i64 (free.idxOf true), .int .u64 (gens.getD (free.idxOf true) 0)], .int .i64 0]) ∧
      Upd [p, f, A.m] w w' ∧ PoolIs w' p g f gens (free.set (free.idxOf true) false) ∧ ∃ b, w.heap.size ≤ b ∧ AG w' R (some ⟨p, 0, none⟩) { A with L := A.L ++ [⟨free.idxOf true, gens.getD (free.idxOf true) 0, b, [.string qp, .string qv, .bool qh, .pointer qk], A.c⟩], c := A.c + 1 } := by
  refine (aAlloc_some A.a p g f A.m _ A.c gens free qp qv qh qk w h.is hp hn hap haf hmp hmf hmg (find_none_of fun e he h1 => hnew e he (by omega))).mono fun e w' ⟨he, hu, hp', b, hb, ha, hc⟩ => ⟨he, hu, hp', b, hb, ?_⟩
  refine ArenaG.snoc h hu (by simp; exact ⟨hR.1, hR.2.1, hR.2.2⟩) ha.2.1 ?_ hnew hb hRl hc
  rw [List.map_append]
  exact ha.2.2
end AAnode
end Go.Proofs.YtmhlokomlngdmaaGreat
