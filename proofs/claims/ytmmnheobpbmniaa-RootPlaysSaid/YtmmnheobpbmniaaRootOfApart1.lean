/- A root that asks the function l19Apart1: load and what it calls. -/
import Derived.Test.YtmmnheobpbmniaaRoot
namespace Go.Proofs.Ytmmnheobpbmniaa
open Go.RowKit
namespace RApart
set_option maxRecDepth 100000 in
set_option maxHeartbeats 1600000 in
theorem load1_any (pl r : Nat) (caps : Array Value) (d : Option Addr) (S : List Nat) (Pre Post : World → Prop) (dn mu : Int) (now : Option Addr) (w : World) (hA : AskIs r 13 caps d S Pre Post)
    (hr : RootRaw w r dn mu (.func (.func 13) #[] caps) now) (hp : w.cell? ⟨pl, 0, none⟩ = some (.pointer (some ⟨r, 0, none⟩))) (hpl : pl ∉ S) (hpr : pl ≠ r) (hpre : Pre w) :
    Calls Try.prog 27 #[.pointer (some ⟨pl, 0, none⟩)] w (Load1End r dn mu (.func (.func 13) #[] caps) d S Post w) := by
  obtain ⟨c0, c1, c3, c4, f4⟩ := hr.cells
  have hcall := Lib.hid (hA.run w.drew (hA.pre _ _ hpre (Upd.refl _ _).drew))
  have HR := Lib.hid hr
  have HA := Lib.hid hA
  clear hA hr hpre
  go_enter Try.func27, Try.ntmps27
  go_wp2_with fail
  have hpl' : ∀ w2 : World, Upd S w.drew w2 → w2.cell? ⟨pl, 0, none⟩ = some (.pointer (some ⟨r, 0, none⟩)) := fun w2 hu => hu.cell (w := w.drew) (by go_simp) hpl
  have hrr' : ∀ w2 : World, Upd S w.drew w2 → RootRaw w2 r dn mu (.func (.func 13) #[] caps) now := fun w2 hu => RootRaw.upd (w := w.drew) HR.out hu HA.out.out
  replace hpl' := Lib.hid hpl'
  replace hrr' := Lib.hid hrr'
  have hrl : r < w.heap.size := heap_lt HR.out
  go_region_held3 (fun w' => w'.cell? ⟨pl, 0, none⟩ = some (.pointer (some ⟨r, 0, none⟩)) ∧ w'.cell? ⟨r, 3, none⟩ = some (.func (.func 13) #[] caps)) (first | exact ⟨q0, b3⟩ | exact ⟨set_alloc_other hpr q0, hal2.out.2.2.2.1.cells.2.2.1⟩ | go_keep) (first
    | (go_at_call 13; refine hcall.out.mono ?_; rintro e w2 ⟨rfl, hu2, hq2⟩; have q0 := hpl'.out w2 hu2; have hr2 := hrr'.out w2 hu2; obtain ⟨b0, b1, b3, b4, b5⟩ := hr2.cells; have hal2 := Lib.hid (new_state d hr2); have hs2 := hu2.size; replace hu2 := Lib.hid hu2; replace hq2 := Lib.hid hq2; replace hr2 := Lib.hid hr2)
    | (go_at_call 28; refine (apStore_any ⟨r, 4, none⟩ ⟨_, 0, none⟩ (.pointer now) (.pointer d) _ hal2.out.1 hal2.out.2.1 hal2.out.2.2.1).mono ?_; rintro e w3 ⟨rfl, rfl⟩))
  all_goals
    go_wp2_with fail
    go_end0
    refine ⟨rfl, w2.heap.size, ?_, hal2.out.2.2.2.2, hal2.out.2.2.2.1, ?_, ?_⟩
    · exact hu2.out.size
    · exact (((((Upd.refl _ _).drew).trans (hu2.out.mono (by simp +contextual))).alloc _).setCell (p := ⟨r, 4, none⟩) (by simp) _)
    · exact HA.out.post _ _ hq2.out (((Upd.refl _ _).alloc _).setCell (p := ⟨r, 4, none⟩) (by simp) _)
def SlowEnd (r : Nat) (ask : Value) (d : Option Addr) (S : List Nat) (Post : World → Prop) (w : World) (e : Ending) (w' : World) : Prop :=
  e = .returned (.tuple #[]) ∧ ∃ s, w.heap.size ≤ s ∧ StateIs w' s d 0 ∧ RootRaw w' r 1 0 ask (some ⟨s, 0, none⟩) ∧ Upd (r :: S) w w' ∧ Post w'
set_option maxRecDepth 100000 in
set_option maxHeartbeats 1600000 in
theorem slow_any (pl r : Nat) (caps : Array Value) (d : Option Addr) (S : List Nat) (Pre Post : World → Prop) (now : Option Addr) (w : World) (hA : AskIs r 13 caps d S Pre Post)
    (hr : RootRaw w r 0 0 (.func (.func 13) #[] caps) now) (hp : w.cell? ⟨pl, 0, none⟩ = some (.pointer (some ⟨r, 0, none⟩))) (hpl : pl ∉ S) (hpr : pl ≠ r) (hpre : Pre w) :
    Calls Try.prog 32 #[.pointer (some ⟨r, 0, none⟩), .func (.func 27) #[] #[.pointer (some ⟨pl, 0, none⟩)]] w (SlowEnd r (.func (.func 13) #[] caps) d S Post w) := by
  obtain ⟨c0, c1, c3, c4, f4⟩ := hr.cells
  have hr1 : RootRaw (w.setCell ⟨r, 1, none⟩ (.int .i32 1)) r 0 1 (.func (.func 13) #[] caps) now := by
    unfold RootRaw at hr ⊢
    rw [heap_set_same hr]
    rfl
  have hu1 : Upd [r] w (w.setCell ⟨r, 1, none⟩ (.int .i32 1)) := (Upd.refl _ _).setCell (p := ⟨r, 1, none⟩) (by simp) _
  have hp1 : (w.setCell ⟨r, 1, none⟩ (.int .i32 1)).cell? ⟨pl, 0, none⟩ = some (.pointer (some ⟨r, 0, none⟩)) := hu1.cell hp (by simp; exact hpr)
  have hl := run_call_load (P := Try.prog) Try.func35 (by kernel_rfl) (by kernel_rfl) (by kernel_rfl) .u32 (by kernel_rfl) (w := w.setCell ⟨r, 1, none⟩ (.int .i32 1)) (a := ⟨r, 0, none⟩) (x := 0) hr1.cells.1
  have hcall := Lib.hid (load1_any pl r caps d S Pre Post 0 1 now _ hA hr1 hp1 hpl hpr (hA.pre _ _ hpre hu1))
  have hnot : ∀ (x : Bool) (w : World), (Op.unary .not (.bool x)).run Try.prog w = .ok (.bool (!x)) w := fun _ _ => rfl
  have hlk := Lib.hid (muLock_free ⟨r, 1, none⟩ w c1 (f4 1))
  have HR1 := Lib.hid hr1
  have HU1 := Lib.hid hu1
  have HA := Lib.hid hA
  clear hA hr hpre hr1 hu1 hp1 hp c0 c1 c3 c4 f4
  go_enter_defers Try.func32, Try.ntmps32
  go_wp2_with fail
  refine hlk.out.mono ?_
  rintro e w' ⟨rfl, rfl⟩
  clear hlk
  go_wp2_with (go_at_call 31; go_in)
  refine hcall.out.mono ?_
  clear hcall hl
  rintro e w3 ⟨rfl, s, hs, hst, hr3, hu3, hq3⟩
  obtain ⟨b0, b1, b3, b4, b5⟩ := hr3.cells
  have hr4 : RootRaw (w3.drew.setCell ⟨r, 0, none⟩ (.int .u32 1)) r 1 1 (.func (.func 13) #[] caps) (some ⟨s, 0, none⟩) := by
    have h : RootRaw w3.drew r 0 1 (.func (.func 13) #[] caps) (some ⟨s, 0, none⟩) := hr3
    unfold RootRaw at h ⊢
    rw [heap_set_same h]
    rfl
  have hr5 : RootRaw ((w3.drew.setCell ⟨r, 0, none⟩ (.int .u32 1)).setCell ⟨r, 1, none⟩ (.int .i32 0)) r 1 0 (.func (.func 13) #[] caps) (some ⟨s, 0, none⟩) := by
    unfold RootRaw at hr4 ⊢
    rw [heap_set_same hr4]
    rfl
  have hu5 : Upd [r] w3 ((w3.drew.setCell ⟨r, 0, none⟩ (.int .u32 1)).setCell ⟨r, 1, none⟩ (.int .i32 0)) := (((Upd.refl _ _).drew).setCell (p := ⟨r, 0, none⟩) (by simp) _).setCell (p := ⟨r, 1, none⟩) (by simp) _
  have hsr : s ≠ r := by
    have h1 := heap_lt HR1.out
    omega
  have hst5 : StateIs ((w3.drew.setCell ⟨r, 0, none⟩ (.int .u32 1)).setCell ⟨r, 1, none⟩ (.int .i32 0)) s d 0 := hu5.heap hst (by simp; exact hsr)
  have hsd := Lib.hid (abStore_deferred ⟨r, 0, none⟩ (.int .u32 0) .returning w3 b0 (b5 0))
  have hud := Lib.hid (fun u => muUnlock_deferred ⟨r, 1, none⟩ u (w3.drew.setCell ⟨r, 0, none⟩ (.int .u32 1)) hr4.cells.2.1 (hr4.cells.2.2.2.2 1))
  have HE := Lib.hid (show SlowEnd r (.func (.func 13) #[] caps) d S Post w (.returned (.tuple #[])) ((w3.drew.setCell ⟨r, 0, none⟩ (.int .u32 1)).setCell ⟨r, 1, none⟩ (.int .i32 0)) from by
    refine ⟨rfl, s, ?_, hst5, hr5, ?_, HA.out.post _ _ hq3 hu5⟩
    · have := HU1.out.size
      omega
    · exact ((HU1.out.mono (by simp +contextual)).trans hu3).trans (hu5.mono (by simp +contextual)))
  clear hs hst hr3 hu3 hq3 hr4 hr5 hu5 hst5 hsr b0 b1 b3 b4 b5 hnot
  go_wp2_with fail
  refine leaves_cons (f := 38) (args := #[.pointer (some ⟨r, 0, none⟩), .bool true]) (by simp) (by simp [go_sem]) ?_
  refine hsd.out.mono ?_
  rintro e u' w'' ⟨rfl, rfl, rfl⟩
  refine leaves_cons (f := 37) (args := #[.pointer (some ⟨r, 1, none⟩)]) (by simp [settle]) (by simp [go_sem]) ?_
  refine (hud.out _).mono ?_
  rintro e u' w'' ⟨rfl, rfl, rfl⟩
  have hfin := HE.out
  simp [Leaves, settle, results, Try.results32]
  exact hfin
set_option maxRecDepth 100000 in
set_option maxHeartbeats 1600000 in
theorem do_first (pl r : Nat) (caps : Array Value) (d : Option Addr) (S : List Nat) (Pre Post : World → Prop) (now : Option Addr) (w : World) (hA : AskIs r 13 caps d S Pre Post)
    (hr : RootRaw w r 0 0 (.func (.func 13) #[] caps) now) (hp : w.cell? ⟨pl, 0, none⟩ = some (.pointer (some ⟨r, 0, none⟩))) (hpl : pl ∉ S) (hpr : pl ≠ r) (hpre : Pre w) :
    Calls Try.prog 26 #[.pointer (some ⟨r, 0, none⟩), .func (.func 27) #[] #[.pointer (some ⟨pl, 0, none⟩)]] w (SlowEnd r (.func (.func 13) #[] caps) d S Post w) := by
  obtain ⟨c0, c1, c3, c4, f4⟩ := hr.cells
  have hs := Lib.hid (slow_any pl r caps d S Pre Post now w hA hr hp hpl hpr hpre)
  have hl := run_call_load (P := Try.prog) Try.func35 (by kernel_rfl) (by kernel_rfl) (by kernel_rfl) .u32 (by kernel_rfl) c0
  have hnot : ∀ (x : Bool) (w : World), (Op.unary .not (.bool x)).run Try.prog w = .ok (.bool (!x)) w := fun _ _ => rfl
  clear hA hr hpre hp c1 c3 c4 f4
  go_enter Try.func26, Try.ntmps26
  go_wp2_with (first | (go_at_call 32; refine hs.out.mono ?_; rintro e w' ⟨rfl, hE⟩; replace hE := Lib.hid hE) | (go_at_call 31; go_in))
  go_end0
  exact ⟨rfl, hE.out⟩
theorem do_done (r : Nat) (fv : Value) (w : World) (c0 : w.cell? ⟨r, 0, none⟩ = some (.int .u32 1)) :
    Calls Try.prog 26 #[.pointer (some ⟨r, 0, none⟩), fv] w fun e w' => e = .returned (.tuple #[]) ∧ w = w' := by
  have hl := run_call_load (P := Try.prog) Try.func35 (by kernel_rfl) (by kernel_rfl) (by kernel_rfl) .u32 (by kernel_rfl) c0
  have hnot : ∀ (x : Bool) (w : World), (Op.unary .not (.bool x)).run Try.prog w = .ok (.bool (!x)) w := fun _ _ => rfl
  go_enter Try.func26, Try.ntmps26
  go_wp2
  go_end0
  exact ⟨rfl, rfl⟩
set_option maxRecDepth 100000 in
set_option maxHeartbeats 1600000 in
theorem load_first (r : Nat) (caps : Array Value) (d : Option Addr) (S : List Nat) (Pre Post : World → Prop) (now : Option Addr) (w : World) (hA : AskIs r 13 caps d S Pre Post)
    (hr : RootRaw w r 0 0 (.func (.func 13) #[] caps) now) (hS : ∀ k, k ∈ S → k < w.heap.size) (hpre : Pre w) :
    Calls Try.prog 24 #[.pointer (some ⟨r, 0, none⟩)] w (LoadEnd r (.func (.func 13) #[] caps) d 0 (r :: S) Post w) := by
  have hrl : r < w.heap.size := heap_lt hr
  have hr1 : RootRaw (w.alloc (.cells #[.pointer (some ⟨r, 0, none⟩)] 27)) r 0 0 (.func (.func 13) #[] caps) now := heap_alloc_old _ hr
  have hp1 : (w.alloc (.cells #[.pointer (some ⟨r, 0, none⟩)] 27)).cell? ⟨w.heap.size, 0, none⟩ = some (.pointer (some ⟨r, 0, none⟩)) := by rw [cell_of_heap (heap_alloc_new _ _)]; rfl
  have hs := Lib.hid (do_first w.heap.size r caps d S Pre Post now _ hA hr1 hp1 (fun h => by have := hS _ h; omega) (by omega) (hA.pre _ _ hpre ((Upd.refl _ _).alloc _)))
  obtain ⟨c0, c1, c3, c4, f4⟩ := hr1.cells
  have hne : ∀ w, (binOp .eql 31 (.func (.func 13) #[] caps) .nilFunc).run Try.prog w = .ok (.bool false) w := fun w => run_eql_func_nil w 31 _ _ _ Try.underlying31
  have hmf : ∀ (fn : Fn) (first cap : Array Value) (w : World), (Instr.makeFunc fn first cap).run Try.prog w = .ok (.func fn first cap) w := fun _ _ _ _ => rfl
  have hS' : w.heap.size ∉ r :: S := by
    intro h
    rcases List.mem_cons.1 h with h | h
    · omega
    · have := hS _ h
      omega
  clear hA hr hr1 hpre
  go_enter Try.func24, Try.ntmps24
  go_wp2_with fail
  refine hs.out.mono ?_
  clear hs
  rintro e w3 ⟨rfl, s, hs, hst, hr3, hu3, hq3⟩
  have hp3 := hu3.cell hp1 hS'
  obtain ⟨b0, b1, b3, b4, b5⟩ := hr3.cells
  have hld := Lib.hid (apLoad_any ⟨r, 4, none⟩ s (.pointer d) (.int .u64 0) w3 b4 hst)
  have hu := Lib.hid (((Upd.refl (r :: S) w).alloc (.cells #[.pointer (some ⟨r, 0, none⟩)] 27)).trans hu3)
  replace hst := Lib.hid hst
  replace hr3 := Lib.hid hr3
  replace hq3 := Lib.hid hq3
  have hsz : w.heap.size ≤ s := by simp at hs; omega
  clear hu3 hs hp1 c0 c1 c3 c4 f4
  go_wp2_with fail
  refine hld.out.mono ?_
  rintro e w4 ⟨rfl, rfl⟩
  clear hld
  go_wp2_with fail
  go_ret
  exact ⟨s, rfl, hst.out, hr3.out, hu.out, hq3.out⟩
set_option maxRecDepth 100000 in
set_option maxHeartbeats 1600000 in
theorem load_done (r s : Nat) (caps : Array Value) (d : Option Addr) (v : Int) (S : List Nat) (Post : World → Prop) (w : World) (hQ : Stb r Post)
    (hr : RootRaw w r 1 0 (.func (.func 13) #[] caps) (some ⟨s, 0, none⟩)) (hst : StateIs w s d v) (hq : Post w) :
    Calls Try.prog 24 #[.pointer (some ⟨r, 0, none⟩)] w (LoadEnd r (.func (.func 13) #[] caps) d v S Post w) := by
  have hrl : r < w.heap.size := heap_lt hr
  have hu := (Upd.refl ([] : List Nat) w).alloc (.cells #[.pointer (some ⟨r, 0, none⟩)] 27)
  have hr1 : RootRaw (w.alloc (.cells #[.pointer (some ⟨r, 0, none⟩)] 27)) r 1 0 (.func (.func 13) #[] caps) (some ⟨s, 0, none⟩) := heap_alloc_old _ hr
  have hst1 : StateIs (w.alloc (.cells #[.pointer (some ⟨r, 0, none⟩)] 27)) s d v := heap_alloc_old _ hst
  obtain ⟨c0, c1, c3, c4, f4⟩ := hr1.cells
  have hne : ∀ w, (binOp .eql 31 (.func (.func 13) #[] caps) .nilFunc).run Try.prog w = .ok (.bool false) w := fun w => run_eql_func_nil w 31 _ _ _ Try.underlying31
  have hmf : ∀ (fn : Fn) (first cap : Array Value) (w : World), (Instr.makeFunc fn first cap).run Try.prog w = .ok (.func fn first cap) w := fun _ _ _ _ => rfl
  have hs := Lib.hid (do_done r (.func (.func 27) #[] #[.pointer (some ⟨w.heap.size, 0, none⟩)]) _ c0)
  have hld := Lib.hid (apLoad_any ⟨r, 4, none⟩ s (.pointer d) (.int .u64 v) _ c4 hst1)
  have HE := Lib.hid (show LoadEnd r (.func (.func 13) #[] caps) d v S Post w (.returned (.pointer (some ⟨s, 0, none⟩))) (w.alloc (.cells #[.pointer (some ⟨r, 0, none⟩)] 27)) from
    ⟨s, rfl, hst1, hr1, hu.mono (by simp), hQ _ _ hq (hu.mono (by simp))⟩)
  clear hu hr1 hst1 hr hst hq
  go_enter Try.func24, Try.ntmps24
  go_wp2_with fail
  refine hs.out.mono ?_
  rintro e w3 ⟨rfl, rfl⟩
  clear hs
  go_wp2_with fail
  refine hld.out.mono ?_
  rintro e w4 ⟨rfl, rfl⟩
  clear hld
  go_wp2_with fail
  go_ret
  exact HE.out
end RApart
end Go.Proofs.Ytmmnheobpbmniaa
