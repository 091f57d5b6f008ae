/- Package epoch: an Epoch in memory, and the contracts of New, Pin, Unpin, Retire, ripe and Waiting. -/
import Derived.Test.YtidiefcgepllmaaMapRange
import Derived.Test.YtidiefcgepllmaaRow
import Derived.Test.YtidiefcgepllmaaAtomicPtr
import Derived.StillTailTactics
import Derived.Test.YtidiefcgepllmaaChecked
import Derived.WalkLawsBesides
import Derived.WalkSpells
import Derived.Outline
import Derived.BigQuiet
import Derived.WalkSmall
import Derived.Deep.RegionHeld3
import Derived.Deep.OwnRows
import Derived.RegionTactic
import Derived.Deep.LoopGhost
import Derived.Deep.DeepCutAuto
namespace Go.Proofs.Ytidiefcgepllmaa
open Go.RowKit
/-- A task that is pinned: since when; when its entry was born. -/
structure Pn where
  task : Int
  t : Nat
  born : Nat
def pnVal (x : Pn) : Value := .int .u64 x.t
/-- What is retired: a function with what it captured, and when. -/
structure Ret where
  f : FuncId
  caps : Array Value
  at' : Nat
def Ret.cells (r : Ret) : List Value := [.func (.func r.f) #[] r.caps, .int .u64 r.at']
abbrev pnEnts (S : List Pn) : Array MapEntry := ents (S.map (entOf Pn.task pnVal Pn.born))
/-- An Epoch without the row of what is retired: v is that slice. -/
structure EpAt (w : World) (e m : Nat) (v : Value) (S : List Pn) (c now : Nat) (b : Bool) : Prop where
  blk : w.heap[e]? = some (.cells #[.map (some m), v, .int .u64 now, .bool b] 53)
  map : w.heap[m]? = some (.map (pnEnts S) c)
  bd : Born Pn.born S c
  nd : (S.map Pn.task).Nodup
  ne : e ≠ m
abbrev RetRow (base : Nat) (w : World) (v : Value) (L : List Ret) : Prop := Row base 56 2 Ret.cells w v L
structure EpIs (base : Nat) (w : World) (e m : Nat) (v : Value) (S : List Pn) (c now : Nat) (b : Bool) (L : List Ret) : Prop where
  at' : EpAt w e m v S c now b
  row : RetRow base w v L
  oe : v.ownBlock ≠ some e
  om : v.ownBlock ≠ some m
theorem EpAt.cells {w : World} {e m : Nat} {v : Value} {S : List Pn} {c now : Nat} {b : Bool} (h : EpAt w e m v S c now b) :
    w.cell? ⟨e, 0, none⟩ = some (.map (some m)) ∧ w.cell? ⟨e, 1, none⟩ = some v ∧ w.cell? ⟨e, 2, none⟩ = some (.int .u64 now) ∧ w.cell? ⟨e, 3, none⟩ = some (.bool b) ∧ ∀ i, w.frozen? ⟨e, i, none⟩ = false := by
  refine ⟨?_, ?_, ?_, ?_, frozen_of_heap h.blk⟩ <;> (rw [cell_of_heap h.blk]; rfl)
theorem EpAt.upd {T : List Nat} {w w' : World} {e m : Nat} {v : Value} {S : List Pn} {c now : Nat} {b : Bool} (h : EpAt w e m v S c now b) (hu : Upd T w w') (he : e ∉ T) (hm : m ∉ T) : EpAt w' e m v S c now b :=
  ⟨hu.heap h.blk he, hu.heap h.map hm, h.bd, h.nd, h.ne⟩
theorem EpIs.upd {T : List Nat} {base : Nat} {w w' : World} {e m : Nat} {v : Value} {S : List Pn} {c now : Nat} {b : Bool} {L : List Ret} (h : EpIs base w e m v S c now b L) (hu : Upd T w w') (he : e ∉ T) (hm : m ∉ T) (hv : ∀ k, v.ownBlock = some k → k ∉ T) : EpIs base w' e m v S c now b L :=
  ⟨h.at'.upd hu he hm, h.row.upd hu hv, h.oe, h.om⟩
theorem EpIs.below {base : Nat} {w w' : World} {e m : Nat} {v : Value} {S : List Pn} {c now : Nat} {b : Bool} {L : List Ret} (h : EpIs base w e m v S c now b L) (hb : Below w.heap.size w w') : EpIs base w' e m v S c now b L :=
  h.upd (Upd.of_below (S := []) hb) (by simp) (by simp) (by simp)
theorem ret_len (r : Ret) : r.cells.length = 2 := rfl
theorem ret_one (r : Ret) : ∀ y ∈ r.cells, y.oneCell' = true := by
  intro y hy
  simp [Ret.cells] at hy
  rcases hy with rfl | rfl <;> rfl
theorem pn_val (S : List Pn) (k : Int) : val? (S.map (entOf Pn.task pnVal Pn.born)) k = (S.find? fun x => k = x.task).map pnVal := by
  unfold val?
  rw [List.find?_map, Option.map_map]
  rfl
theorem pn_none {S : List Pn} {k : Int} (h : ∀ x, x ∈ S → x.task ≠ k) : val? (S.map (entOf Pn.task pnVal Pn.born)) k = none := by
  rw [pn_val, List.find?_eq_none.2 (fun x hx => by simpa using fun e => h x hx e.symm)]
  rfl
theorem pn_some {S : List Pn} {k : Int} {x : Pn} (hx : x ∈ S) (hk : x.task = k) : ∃ y : Pn, val? (S.map (entOf Pn.task pnVal Pn.born)) k = some (.int .u64 y.t) := by
  rw [pn_val]
  cases hf : S.find? (fun x => decide (k = x.task)) with
  | none =>
    rw [List.find?_eq_none] at hf
    exact absurd hk.symm (by simpa using hf x hx)
  | some y => exact ⟨y, rfl⟩
theorem pn_drop {S : List Pn} {k : Int} (hn : (S.map Pn.task).Nodup) : dropEnt k (S.map (entOf Pn.task pnVal Pn.born)) = (S.filter fun x => x.task ≠ k).map (entOf Pn.task pnVal Pn.born) := by
  induction S with
  | nil => rfl
  | cons x xs ih =>
    rw [List.map_cons, List.nodup_cons] at hn
    simp only [List.map_cons, dropEnt, entOf]
    by_cases h : k = x.task
    · subst h
      rw [if_pos rfl, List.filter_cons, if_neg (by simp)]
      have : xs.filter (fun e => e.task ≠ x.task) = xs := by
        rw [List.filter_eq_self]
        intro e he
        have : ¬ e.task = x.task := fun h => hn.1 (by rw [← h]; exact List.mem_map_of_mem he)
        simpa using this
      rw [this]
    · rw [if_neg h, List.filter_cons, if_pos (by simp; exact fun e => h e.symm), ih hn.2]
      rfl
def dropTask (k : Int) (S : List Pn) : List Pn := S.filter fun x => x.task ≠ k
/-- New. -/
theorem epNew_any (base : Nat) (w : World) : Calls Try.prog 8 #[] w fun e w' => e = .returned (.pointer (some ⟨w.heap.size + 1, 0, none⟩)) ∧ Below w.heap.size w w' ∧ EpIs base w' (w.heap.size + 1) w.heap.size (.slice none 0 0) [] 0 0 false [] ∧ w'.heap.size = w.heap.size + 2 := by
  have hmm := @run_makeMap Try.prog
  go_enter Try.func8, Try.ntmps8
  go_wp2
  go_ret
  refine ⟨rfl, ((Below.refl _ _).alloc (Nat.le_refl _) _).alloc (by simp) _, ⟨⟨?_, ?_, Born.nil _ _, by simp, by omega⟩, Row.nil ret_len ret_one _ _ _, by simp [Value.ownBlock], by simp [Value.ownBlock]⟩, by simp⟩
  · have := heap_alloc_new (w.alloc (.map #[] 0)) (.cells #[.map (some w.heap.size), .slice none 0 0, .int .u64 0, .bool false] 53)
    simpa using this
  · exact heap_alloc_old _ (heap_alloc_new w (.map #[] 0))
theorem epWaiting_any (base e m : Nat) (v : Value) (S : List Pn) (c now : Nat) (b : Bool) (L : List Ret) (w : World) (h : EpIs base w e m v S c now b L) :
    Calls Try.prog 16 #[.pointer (some ⟨e, 0, none⟩)] w fun x w' => x = .returned (.int .i64 L.length) ∧ w = w' := by
  obtain ⟨a, cap, rfl⟩ := h.row.shape
  have c1 := h.at'.cells.2.1
  clear h
  go_enter Try.func16, Try.ntmps16
  go_wp2
  go_ret
  exact ⟨rfl, rfl⟩
/-- Pin of a task that is pinned. -/
theorem epPin_no (base e m : Nat) (v : Value) (S : List Pn) (c now : Nat) (b : Bool) (L : List Ret) (k : Int) (w : World) (h : EpIs base w e m v S c now b L) (hk : ∃ x, x ∈ S ∧ x.task = k) :
    Calls Try.prog 12 #[.pointer (some ⟨e, 0, none⟩), .int .i64 k] w fun x w' => x = .returned (.bool false) ∧ w = w' := by
  have c0 := h.at'.cells.1
  obtain ⟨x, hx, hxk⟩ := hk
  obtain ⟨y, hy⟩ := pn_some hx hxk
  have hlk := run_lookup_ok (P := Try.prog) (w := w) (z := .int .u64 0) k Try.underlying49 Try.underlying3 h.at'.map (by kernel_rfl)
  rw [hy] at hlk
  simp only [Option.getD_some, Option.isSome_some] at hlk
  clear h hy hx hxk
  go_enter Try.func12, Try.ntmps12
  go_wp2
  go_ret
  exact ⟨rfl, rfl⟩
/-- Pin of a task that is not pinned. -/
theorem epPin_yes (base e m : Nat) (v : Value) (S : List Pn) (c now : Nat) (b : Bool) (L : List Ret) (k : Int) (w : World) (h : EpIs base w e m v S c now b L) (hk : ∀ x, x ∈ S → x.task ≠ k) (hn : now < 1000000000) :
    Calls Try.prog 12 #[.pointer (some ⟨e, 0, none⟩), .int .i64 k] w fun x w' => x = .returned (.bool true) ∧ EpIs base w' e m v (S ++ [⟨k, now + 1, c⟩]) (c + 1) (now + 1) b L ∧ Upd [e, m] w w' := by
  obtain ⟨c0, c1, c2, c3, cf⟩ := h.at'.cells
  have hv := pn_none hk
  have hlk := run_lookup_ok (P := Try.prog) (w := w) (z := .int .u64 0) k Try.underlying49 Try.underlying3 h.at'.map (by kernel_rfl)
  rw [hv] at hlk
  simp only [Option.getD_none, Option.isSome_none] at hlk
  have hne := h.at'.ne
  have hm1 : (w.setCell ⟨e, 2, none⟩ (.int .u64 ((now : Int) + 1))).drew.heap[m]? = some (.map (pnEnts S) c) := by
    show (w.setCell ⟨e, 2, none⟩ (.int .u64 ((now : Int) + 1))).heap[m]? = _
    rw [heap_set_other _ _ (fun hh => hne hh.symm)]
    exact h.at'.map
  have hup := run_update (P := Try.prog) k (.int .u64 ((now : Int) + 1)) Try.underlying49 Try.underlying3 hm1
  rw [hv] at hup
  simp only [Option.isSome_none, Bool.false_eq_true, if_false] at hup
  have hE1 : (w.setCell ⟨e, 2, none⟩ (.int .u64 ((now : Int) + 1))).heap[e]? = some (.cells #[.map (some m), v, .int .u64 ((now : Int) + 1), .bool b] 53) := by
    rw [heap_set_same h.at'.blk]
    rfl
  have HH := Lib.hid h
  have hK := Lib.hid hk
  replace hm1 := Lib.hid hm1
  replace hE1 := Lib.hid hE1
  have HV := Lib.hid hv
  clear h hk hv
  go_enter Try.func12, Try.ntmps12
  go_wp2_with fail
  go_region
  clear hup
  go_wp2_with fail
  all_goals
    go_ret
    refine ⟨rfl, ⟨⟨?_, ?_, HH.out.at'.bd.snoc _ rfl, ?_, hne⟩, HH.out.row.upd (S := [e, m]) ?_ (by simp; intro q hq; exact ⟨fun hh => HH.out.oe (by rw [hq, hh]), fun hh => HH.out.om (by rw [hq, hh])⟩), HH.out.oe, HH.out.om⟩, ?_⟩
    · rw [heap_setObj_other _ hne]
      exact hE1.out
    · rw [heap_setObj_same _ (by exact heap_lt hm1.out)]
      unfold pnEnts
      rw [List.map_append, setEnt_none _ _ _ _ HV.out]
      rfl
    · rw [List.map_append, List.nodup_append]
      refine ⟨HH.out.at'.nd, by simp, ?_⟩
      intro a ha b hb
      obtain ⟨x, hx, rfl⟩ := List.mem_map.1 ha
      simp at hb
      rw [hb]
      exact hK.out x hx
    · exact (((Upd.refl _ _).setCell (p := ⟨e, 2, none⟩) (by simp) _).drew).setObj (by simp) _
    · exact (((Upd.refl _ _).setCell (p := ⟨e, 2, none⟩) (by simp) _).drew).setObj (by simp) _
/-- Unpin. -/
theorem epUnpin_any (base e m : Nat) (v : Value) (S : List Pn) (c now : Nat) (b : Bool) (L : List Ret) (k : Int) (d : Bool) (w : World) (h : EpIs base w e m v S c now b L) (hd : decide (∃ x, x ∈ S ∧ x.task = k) = d) :
    Calls Try.prog 15 #[.pointer (some ⟨e, 0, none⟩), .int .i64 k] w fun x w' => x = .returned (.bool d) ∧ EpIs base w' e m v (dropTask k S) c now b L ∧ Upd [m] w w' := by
  have c0 := h.at'.cells.1
  have hlk : ∃ z : Int, (Instr.lookup 49 (.map (some m)) (.int .i64 k) true).run Try.prog w = .ok (.tuple #[.int .u64 z, .bool d]) w := by
    have hlk := run_lookup_ok (P := Try.prog) (w := w) (z := .int .u64 0) k Try.underlying49 Try.underlying3 h.at'.map (by kernel_rfl)
    cases d with
    | true =>
      obtain ⟨x, hx, hxk⟩ := of_decide_eq_true hd
      obtain ⟨y, hy⟩ := pn_some hx hxk
      rw [hy] at hlk
      exact ⟨_, hlk⟩
    | false =>
      rw [pn_none (fun x hx hh => of_decide_eq_false hd ⟨x, hx, hh⟩)] at hlk
      exact ⟨_, hlk⟩
  obtain ⟨z, hlk⟩ := hlk
  have hdl := run_delete (P := Try.prog) (KT := 3) (ty := 0) k Try.underlying49 Try.underlying3 h.at'.map
  have hdl' : ∀ KT ty, (Builtin.delete_ #[49, KT] ty #[.map (some m), .int .i64 k]).run Try.prog w = .ok (.tuple #[]) (World.setObj' w m (.map (pnEnts (dropTask k S)) c)) := by
    intro KT ty
    have := run_delete (P := Try.prog) (KT := KT) (ty := ty) k Try.underlying49 Try.underlying3 h.at'.map
    rw [pn_drop h.at'.nd] at this
    exact this
  clear hdl
  have HH := Lib.hid h
  clear h hd
  go_enter Try.func15, Try.ntmps15
  go_wp2
  go_ret
  have hu : Upd [m] w (World.setObj' w m (.map (pnEnts (dropTask k S)) c)) := (Upd.refl _ _).setObj (by simp) _
  refine ⟨rfl, ⟨⟨hu.heap HH.out.at'.blk (by simp; exact HH.out.at'.ne), heap_setObj_same _ (heap_lt HH.out.at'.map), HH.out.at'.bd.filter _, HH.out.at'.nd.sublist ((List.filter_sublist).map _), HH.out.at'.ne⟩, HH.out.row.upd hu (by simp; intro q hq hh; exact HH.out.om (by rw [hq, hh])), HH.out.oe, HH.out.om⟩, hu⟩
/-- ripe: is nobody pinned since a time, or longer? -/
theorem epripe_any (base e m : Nat) (v : Value) (S : List Pn) (c now : Nat) (b : Bool) (L : List Ret) (k : Nat) (w : World) (h : EpIs base w e m v S c now b L) :
    Calls Try.prog 28 #[.pointer (some ⟨e, 0, none⟩), .int .u64 k] w fun x w' => x = .returned (.bool (decide (∀ x, x ∈ S → k < x.t))) ∧ Below w.heap.size w w' := by
  have c0 := h.at'.cells.1
  have hm := Lib.hid h.at'.map
  have hbd := h.at'.bd
  have hml : m < w.heap.size := heap_lt hm.out
  clear h
  go_enter Try.func28, Try.ntmps28
  go_wp2_with (at_range; refine wpList_range_ents _ rfl _ 49 rfl 3 51 Try.underlying49 m S c rfl hm.out hbd ?_; intro w0 hrg0 hb0 hs0)
  go_frame
  replace hrg0 := Lib.hid hrg0
  have hb0' := Lib.hid hb0
  have hsz0 := Lib.hid hs0
  clear hb0 hs0
  go_loopg [6] S.length (fun gk _ wr => ∃ T : List Pn, gk = S.length - T.length ∧ Rg Pn.task pnVal Pn.born wr w.heap.size m S c T ∧ Below w.heap.size w wr ∧ ∀ x, x ∈ T → k < x.t)
  case atStart => exact ⟨[], by simp, hrg0.out, hb0'.out, by simp⟩
  case round =>
    obtain ⟨T, rfl, hrg, hB, hT⟩ := hrel
    clear hrg0
    have hlen := hrg.len
    replace hB := Lib.hid hB
    replace hT := Lib.hid hT
    go_wp2_with (at_next; refine wpList_next_ents (mk := Pn.task) (mv := fun x => .int .u64 x.t) (bn := Pn.born) _ rfl _ rfl w.heap.size m S T c rfl hrg ?_ ?_)
    · intro hp
      go_wp2
      go_ret
      refine ⟨?_, hB.out⟩
      rw [decide_eq_true (show ∀ x, x ∈ S → k < x.t from fun x hx => hT.out x (hp.mem_iff.2 hx))]
      rfl
    · intro x w1 hx hxT hrg1 hu1 hs1 hen
      replace hs1 := Lib.hid hs1
      have hrl := hrg1.len
      by_cases hxk : k < x.t
      · have hd : decide ((x.t : Int) ≤ (k : Int)) = false := by simp; omega
        go_wp2
        go_roundg (S.length - (T.length + 1))
        case measure => simp at hrl; omega
        case rel => exact ⟨T ++ [x], by simp, hrg1, hB.out.trans (hu1.below hB.out.size (by simp)), fun y hy => by
            rcases List.mem_append.1 hy with hy | hy
            · exact hT.out y hy
            · simp at hy; subst hy; exact hxk⟩
      · have hd : decide ((x.t : Int) ≤ (k : Int)) = true := by simp; omega
        go_wp2
        go_ret
        refine ⟨?_, hB.out.trans (hu1.below hB.out.size (by simp))⟩
        have : ¬ ∀ x, x ∈ S → k < x.t := fun hh => hxk (hh x hx)
        rw [decide_eq_false this]
        rfl
/-- Another slice in the field left. -/
theorem EpIs.left {T : List Nat} {base e m : Nat} {v v' : Value} {S : List Pn} {c now : Nat} {b : Bool} {L L' : List Ret} {w w1 : World} (h : EpIs base w e m v S c now b L) (hu : Upd T w w1) (he : e ∉ T) (hm : m ∉ T) (hr : RetRow base w1 v' L') (hoe : v'.ownBlock ≠ some e) (hom : v'.ownBlock ≠ some m) :
    EpIs base (w1.setCell ⟨e, 1, none⟩ v') e m v' S c now b L' ∧ Upd (e :: T) w (w1.setCell ⟨e, 1, none⟩ v') := by
  have h1 := h.at'.upd hu he hm
  have hs : Upd [e] w1 (w1.setCell ⟨e, 1, none⟩ v') := (Upd.refl _ _).setCell (p := ⟨e, 1, none⟩) (by simp) _
  refine ⟨⟨⟨?_, ?_, h1.bd, h1.nd, h1.ne⟩, hr.upd hs (by simp; intro q hq hh; exact hoe (by rw [hq, hh])), hoe, hom⟩, (hu.mono (by simp +contextual)).trans (hs.mono (by simp))⟩
  · rw [heap_set_same h1.blk]; rfl
  · exact hs.heap h1.map (by simp; exact fun hh => h1.ne hh.symm)
def RetireEnd (base e m : Nat) (v : Value) (S : List Pn) (c now : Nat) (b : Bool) (L : List Ret) (w : World) (x : Ending) (w' : World) : Prop :=
  x = .returned (.bool true) ∧ ∃ v', EpIs base w' e m v' S c now b L ∧ Upd (e :: v.ownBlock.toList) w w' ∧ (v'.ownBlock = v.ownBlock ∨ ∃ q, v'.ownBlock = some q ∧ w.heap.size ≤ q)
theorem ret_info : ∃ i0 : TypeInfo, Try.prog.info? 56 = some i0 ∧ i0.zero = some (.agg #[.nilFunc, .int .u64 0]) ∧ i0.size = 2 ∧ i0.bytes = 16 := info_parts (show (Try.prog.info? 56).map (fun i => (i.zero, i.size, i.bytes)) = some (some (.agg #[.nilFunc, .int .u64 0]), 2, 16) by kernel_rfl)
/-- The cells of an Epoch behind what turned other blocks alone. -/
theorem EpAt.kept {w : World} {e m : Nat} {v : Value} {S : List Pn} {c now : Nat} {b : Bool} (h : EpAt w e m v S c now b) {T : List Nat} (he : e ∉ T) : ∀ w1, Upd T w w1 → w1.cell? ⟨e, 0, none⟩ = some (.map (some m)) ∧ w1.cell? ⟨e, 1, none⟩ = some v ∧ w1.cell? ⟨e, 2, none⟩ = some (.int .u64 now) ∧ w1.cell? ⟨e, 3, none⟩ = some (.bool b) ∧ (∀ i, w1.frozen? ⟨e, i, none⟩ = false) ∧ e < w1.heap.size := by
  intro w1 hu
  have h1 := hu.heap h.blk he
  refine ⟨?_, ?_, ?_, ?_, frozen_of_heap h1, heap_lt h1⟩ <;> (rw [cell_of_heap h1]; rfl)
theorem own_ne {v v' : Value} {q n : Nat} (hat : v'.ownBlock = v.ownBlock ∨ v'.ownBlock = some n) (h : v.ownBlock ≠ some q) (hq : q < n) : v'.ownBlock ≠ some q := by
  rcases hat with hh | hh
  · rw [hh]; exact h
  · rw [hh]; intro e; injection e with e; omega
theorem not_own {v : Value} {q : Nat} (h : v.ownBlock ≠ some q) : q ∉ v.ownBlock.toList := fun hh => h (mem_own hh)
set_option maxRecDepth 100000 in
set_option maxHeartbeats 1000000 in
/-- Retire of a function. -/
theorem epRetire_any (base e m : Nat) (v : Value) (S : List Pn) (c now : Nat) (b : Bool) (L : List Ret) (F : FuncId) (caps : Array Value) (w : World) (h : EpIs base w e m v S c now b L) (hL : L.length < 1000000) (hbase : base ≤ w.heap.size) :
    Calls Try.prog 13 #[.pointer (some ⟨e, 0, none⟩), .func (.func F) #[] caps] w (RetireEnd base e m v S c now b (L ++ [⟨F, caps, now⟩]) w) := by
  obtain ⟨c0, c1, c2, c3, cf⟩ := h.at'.cells
  obtain ⟨a, cap, hv⟩ := h.row.shape
  have hel : e < w.heap.size := heap_lt h.at'.blk
  have hml : m < w.heap.size := heap_lt h.at'.map
  have hnf : ∀ w, (binOp .eql 1 (.func (.func F) #[] caps) .nilFunc).run Try.prog w = .ok (.bool false) w := fun w => run_eql_func_nil w 1 _ _ _ Try.underlying1
  obtain ⟨i0, hi0, hz0, hz1, hz2⟩ := ret_info
  have hB : Below w.heap.size w (w.drew.alloc (.cells #[.func (.func F) #[] caps, .int .u64 now] 56)) := (Below.refl _ _).drew.alloc (Nat.le_refl _) _
  have hI := Lib.hid (h.below hB)
  have hR := Lib.hid (h.below hB).row
  have hS := Lib.hid (SrcOf.one w.drew 56 (Ret.cells ⟨F, caps, now⟩) (ret_one _))
  have hbs : base ≤ (w.drew.alloc (.cells #[.func (.func F) #[] caps, .int .u64 now] 56)).heap.size := Nat.le_trans hbase hB.size
  replace hbs := Lib.hid hbs
  have hK := Lib.hid (hI.out.at'.kept (not_own hI.out.oe))
  have hlen : L.length + 1 ≤ maxLen := by unfold maxLen; omega
  have hby : (L.length + 1) * 16 ≤ 140737488355328 := by omega
  subst hv
  have HB := Lib.hid hB
  clear h hbase hL hB
  go_enter Try.func13, Try.ntmps13
  go_wp2_with fail
  go_region_law (refine step_append_row (M := [⟨F, caps, now⟩]) _ rfl (.tmp 15) (.tmp 22) 50 rfl base 56 i0 (.agg #[.nilFunc, .int .u64 0]) 2 16 Try.underlying50 hi0 hz0 hz1 hz2 rfl (by decide) (.slice a L.length cap) L (by simp [Act.eval]) hR.out (.slice (some ⟨w.drew.heap.size, 0, none⟩) 1 1) (by simp [Act.eval]) hS.out hlen hby hbs.out ?_; intro a' c' w1 hrow hu hat; obtain ⟨d0, d1, d2, d3, df, dl⟩ := hK.out w1 hu; replace hrow := Lib.hid hrow; replace hu := Lib.hid hu; replace hat := Lib.hid hat)
  all_goals
    go_wp2_with fail
    go_ret
    have hsz : w.heap.size ≤ (w.drew.alloc (.cells #[.func (.func F) #[] caps, .int .u64 now] 56)).heap.size := HB.out.size
    have hoe := own_ne hat.out hI.out.oe (Nat.lt_of_lt_of_le hel hsz)
    have hom := own_ne hat.out hI.out.om (Nat.lt_of_lt_of_le hml hsz)
    obtain ⟨hE, hU⟩ := hI.out.left hu.out (not_own hI.out.oe) (not_own hI.out.om) hrow.out hoe hom
    refine ⟨rfl, _, hE, (Upd.of_below HB.out).trans hU, ?_⟩
    rcases hat.out with hh | hh
    · exact .inl hh
    · exact .inr ⟨_, hh, hsz⟩
end Go.Proofs.Ytidiefcgepllmaa
