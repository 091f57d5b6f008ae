/- What a root's callers are told, whatever its load tells; directories. -/
import Derived.Test.YtmmnheobpbmniaaRoot
import Derived.LaidEqlPtr
namespace Go.Proofs.Ytmmnheobpbmniaa
open Go.RowKit
theorem dir_info : ∃ j, Try.prog.info? 78 = some j ∧ j.size ≠ 0 := by
  obtain ⟨i0, hi, hz0, hz1, hz2⟩ := info_parts (show (Try.prog.info? 78).map (fun i => (i.zero, i.size, i.bytes)) = some (some (.agg #[.slice none 0 0, .slice none 0 0]), 2, 48) by kernel_rfl)
  exact ⟨i0, hi, by rw [hz1]; decide⟩
theorem eq_dir (w : World) (x : Option Addr) : (binOp .eql 24 (.pointer x) (.pointer x)).run Try.prog w = .ok (.bool true) w := by
  obtain ⟨j, hj, _⟩ := dir_info
  cases x with
  | none => rw [run_eql_pointer_nil w 24 none (by kernel_rfl)]; rfl
  | some a => exact run_eql_ptr_same w a Try.underlying24 hj
theorem neq_dir (w : World) (x : Option Addr) : (binOp .neq 24 (.pointer x) (.pointer x)).run Try.prog w = .ok (.bool false) w := by
  obtain ⟨j, hj, _⟩ := dir_info
  cases x with
  | none => rw [run_neq_pointer_nil w 24 none (by kernel_rfl)]; rfl
  | some a => exact Lib.run_neq_ptr_same w a Try.underlying24 hj
theorem neq_dir_other (w : World) {a b : Nat} {ca cb : Array Value} {ta tb : TypeId} (hne : a ≠ b) (ha : w.heap[a]? = some (.cells ca ta)) (hb : w.heap[b]? = some (.cells cb tb)) :
    (binOp .neq 24 (.pointer (some ⟨a, 0, none⟩)) (.pointer (some ⟨b, 0, none⟩))).run Try.prog w = .ok (.bool true) w := by
  obtain ⟨j, hj, hs⟩ := dir_info
  have h : ∀ d : Nat, (Op.equalIn (d + 1) 24 (.pointer (some ⟨a, 0, none⟩)) (.pointer (some ⟨b, 0, none⟩))).run Try.prog w = .ok false w := fun d => by
    simp [Op.equalIn, run_underlying Try.underlying24, sizeOf, typeInfo, hj, hs, run_sameAddr_other w (a := ⟨a, 0, none⟩) (b := ⟨b, 0, none⟩) (fun h => hne (congrArg Addr.block h)) ha hb]
  simp only [binOp]
  simp [Op.equal, Op.maxDepth, h 9999]
/-- Behind a question: what the root has. -/
def Done (r : Nat) (ask : Value) (d : Option Addr) (v : Int) (Post : World → Prop) (w : World) : Prop :=
  ∃ s, RootRaw w r 1 0 ask (some ⟨s, 0, none⟩) ∧ StateIs w s d v ∧ Post w
def LoadsEnd (r : Nat) (ask : Value) (d : Option Addr) (v : Int) (S : List Nat) (Post : World → Prop) (x : Value) (w : World) (e : Ending) (w' : World) : Prop :=
  e = .returned x ∧ Done r ask d v Post w' ∧ Upd S w w'
theorem StateIs.cells {w : World} {s : Nat} {d : Option Addr} {v : Int} (h : StateIs w s d v) : w.cell? ⟨s, 0, none⟩ = some (.pointer d) ∧ w.cell? ⟨s, 1, none⟩ = some (.int .u64 v) := by
  unfold StateIs at h
  constructor <;> (rw [cell_of_heap h]; rfl)
theorem Load_any (r : Nat) (ask : Value) (d : Option Addr) (v : Int) (S : List Nat) (Post : World → Prop) (w : World) (hQ : Stb r Post) (h : Calls Try.prog 24 #[.pointer (some ⟨r, 0, none⟩)] w (LoadEnd r ask d v S Post w)) :
    Calls Try.prog 14 #[.pointer (some ⟨r, 0, none⟩)] w (LoadsEnd r ask d v S Post (.tuple #[.pointer d, .int .u64 v]) w) := by
  replace h := Lib.hid h
  go_enter Try.func14, Try.ntmps14
  go_wp2_with fail
  refine h.out.mono ?_
  clear h
  rintro e w1 ⟨s, rfl, hst, hr, hu, hq⟩
  obtain ⟨c0, c1⟩ := hst.cells
  have HE := Lib.hid (show Done r ask d v Post w1.drew ∧ Upd S w w1.drew from ⟨⟨s, hr, hst, hQ _ _ hq (Upd.refl _ _).drew⟩, hu.drew⟩)
  clear hst hr hu hq
  go_wp2_with fail
  go_region
  all_goals
    go_wp2
    go_ret2
    exact ⟨rfl, HE.out.1, HE.out.2⟩
theorem Version_any (r : Nat) (ask : Value) (d : Option Addr) (v : Int) (S : List Nat) (Post : World → Prop) (w : World) (hQ : Stb r Post) (h : Calls Try.prog 24 #[.pointer (some ⟨r, 0, none⟩)] w (LoadEnd r ask d v S Post w)) :
    Calls Try.prog 16 #[.pointer (some ⟨r, 0, none⟩)] w (LoadsEnd r ask d v S Post (.int .u64 v) w) := by
  replace h := Lib.hid (Load_any r ask d v S Post w hQ h)
  go_enter Try.func16, Try.ntmps16
  go_wp2_with fail
  refine h.out.mono ?_
  clear h
  rintro e w1 ⟨rfl, hE⟩
  replace hE := Lib.hid hE
  go_wp2_with fail
  go_ret
  exact ⟨rfl, hE.out⟩
theorem Valid_any (r : Nat) (ask : Value) (d : Option Addr) (v u : Int) (S : List Nat) (Post : World → Prop) (w : World) (h : Calls Try.prog 24 #[.pointer (some ⟨r, 0, none⟩)] w (LoadEnd r ask d v S Post w)) :
    Calls Try.prog 17 #[.pointer (some ⟨r, 0, none⟩), .int .u64 u] w (LoadsEnd r ask d v S Post (.bool (v == u)) w) := by
  replace h := Lib.hid h
  go_enter Try.func17, Try.ntmps17
  go_wp2_with fail
  refine h.out.mono ?_
  clear h
  rintro e w1 ⟨s, rfl, hst, hr, hu, hq⟩
  obtain ⟨c0, c1⟩ := hst.cells
  have HE := Lib.hid (show Done r ask d v Post w1 ∧ Upd S w w1 from ⟨⟨s, hr, hst, hq⟩, hu⟩)
  clear hst hr hu hq
  go_wp2_with fail
  go_ret
  exact ⟨rfl, HE.out.1, HE.out.2⟩
theorem Swap_no (r : Nat) (ask : Value) (d : Option Addr) (v u : Int) (x : Option Addr) (S : List Nat) (Post : World → Prop) (w : World) (hv : (v == u) = false) (h : Calls Try.prog 24 #[.pointer (some ⟨r, 0, none⟩)] w (LoadEnd r ask d v S Post w)) :
    Calls Try.prog 15 #[.pointer (some ⟨r, 0, none⟩), .int .u64 u, .pointer x] w (LoadsEnd r ask d v S Post (.bool false) w) := by
  replace h := Lib.hid h
  go_enter Try.func15, Try.ntmps15
  go_wp2_with fail
  refine h.out.mono ?_
  clear h
  rintro e w1 ⟨s, rfl, hst, hr, hu, hq⟩
  obtain ⟨c0, c1⟩ := hst.cells
  have HE := Lib.hid (show Done r ask d v Post w1 ∧ Upd S w w1 from ⟨⟨s, hr, hst, hq⟩, hu⟩)
  clear hst hr hu hq
  go_wp2_with fail
  go_ret
  exact ⟨rfl, HE.out.1, HE.out.2⟩
def SwapEnd (r : Nat) (ask : Value) (d : Option Addr) (v : Int) (S : List Nat) (Post : World → Prop) (w : World) (e : Ending) (w' : World) : Prop :=
  e = .returned (.bool true) ∧ Done r ask d v Post w' ∧ Upd (r :: S) w w'
theorem Swap_yes (r : Nat) (ask : Value) (d : Option Addr) (v : Int) (x : Option Addr) (S : List Nat) (Post : World → Prop) (w : World) (hQ : Stb r Post) (hv : 0 ≤ v ∧ v ≤ 1000000) (h : Calls Try.prog 24 #[.pointer (some ⟨r, 0, none⟩)] w (LoadEnd r ask d v S Post w)) :
    Calls Try.prog 15 #[.pointer (some ⟨r, 0, none⟩), .int .u64 v, .pointer x] w (SwapEnd r ask x (v + 1) S Post w) := by
  replace h := Lib.hid h
  obtain ⟨hv0, hv1⟩ := hv
  go_enter Try.func15, Try.ntmps15
  go_wp2_with fail
  refine h.out.mono ?_
  clear h
  rintro e w1 ⟨s, rfl, hst, hr, hu, hq⟩
  obtain ⟨c0, c1⟩ := hst.cells
  have hrl : r < w1.heap.size := heap_lt hr
  have hsl : s < w1.heap.size := heap_lt hst
  have hr2 : RootRaw (w1.alloc (.cells #[.pointer x, .int .u64 (v + 1)] 73)) r 1 0 ask (some ⟨s, 0, none⟩) := heap_alloc_old _ hr
  have hs2 : StateIs (w1.alloc (.cells #[.pointer x, .int .u64 (v + 1)] 73)) s d v := heap_alloc_old _ hst
  have hcas := Lib.hid (apCas_hit ⟨r, 4, none⟩ ⟨s, 0, none⟩ ⟨w1.heap.size, 0, none⟩ (.pointer d) (.pointer x) (w1.alloc (.cells #[.pointer x, .int .u64 (v + 1)] 73)) hr2.cells.2.2.2.1 (hr2.cells.2.2.2.2 4) hs2.cells.1 (by rw [cell_of_heap (heap_alloc_new _ _)]; rfl))
  have hun : Upd [r] w1 ((w1.alloc (.cells #[.pointer x, .int .u64 (v + 1)] 73)).setCell ⟨r, 4, none⟩ (.pointer (some ⟨w1.heap.size, 0, none⟩))) := ((Upd.refl _ _).alloc _).setCell (p := ⟨r, 4, none⟩) (by simp) _
  have HE := Lib.hid (show SwapEnd r ask x (v + 1) S Post w (.returned (.bool true)) ((w1.alloc (.cells #[.pointer x, .int .u64 (v + 1)] 73)).setCell ⟨r, 4, none⟩ (.pointer (some ⟨w1.heap.size, 0, none⟩))) from by
    refine ⟨rfl, ⟨w1.heap.size, ?_, ?_, hQ _ _ hq hun⟩, (hu.mono (by simp +contextual)).trans (hun.mono (by simp +contextual))⟩
    · unfold RootRaw at hr2 ⊢
      rw [heap_set_same hr2]
      rfl
    · unfold StateIs
      rw [heap_set_other _ _ (by show w1.heap.size ≠ r; omega)]
      exact heap_alloc_new _ _)
  clear hst hr hu hq hr2 hs2 hun
  go_wp2_with fail
  refine hcas.out.mono ?_
  clear hcas
  rintro e w2 ⟨rfl, hw2⟩
  rw [hw2] at HE
  clear hw2
  go_wp2_with fail
  go_ret
  exact HE.out
end Go.Proofs.Ytmmnheobpbmniaa
