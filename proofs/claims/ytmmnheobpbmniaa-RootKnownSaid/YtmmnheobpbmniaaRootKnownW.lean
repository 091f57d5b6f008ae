/- The walk of the law RootKnown: it returns true. -/
import Derived.Test.YtmmnheobpbmniaaRootNil
namespace Go.Proofs.Ytmmnheobpbmniaa
open Go.RowKit
set_option maxRecDepth 100000 in
set_option maxHeartbeats 8000000 in
theorem knownLaw_walk (w : World) : Calls Try.prog 4 #[] w fun e w' => e = .returned (.bool true) ∧ Below w.heap.size w w' := by
  have hmf : ∀ (fn : Fn) (first cap : Array Value) (w : World), (Instr.makeFunc fn first cap).run Try.prog w = .ok (.func fn first cap) w := fun _ _ _ _ => rfl
  have e1 := eq_dir
  have e2 := neq_dir
  go_enter Try.func4, Try.ntmps4
  go_wp2_with fail
  refine (dirs_any _).mono ?_
  rintro e w2 ⟨d0, d1, d2, d3, k0, k1, rfl, _, _, _, hb2⟩
  have hb3 := (Below.refl w2.heap.size w2).alloc (Nat.le_refl _) (.cells #[.pointer (some ⟨d0, 0, none⟩), .pointer (some ⟨d1, 0, none⟩), .pointer (some ⟨d2, 0, none⟩), .pointer (some ⟨d3, 0, none⟩)] 25)
  have hl3 := heap_alloc_new w2 (.cells #[.pointer (some ⟨d0, 0, none⟩), .pointer (some ⟨d1, 0, none⟩), .pointer (some ⟨d2, 0, none⟩), .pointer (some ⟨d3, 0, none⟩)] 25)
  have HB3 := Lib.hid ((hb2).trans (hb3.mono hb2.size))
  have HL3 := Lib.hid hl3
  clear hb2 hb3 hl3
  go_wp2_with fail
  generalize w2.alloc (.cells #[.pointer (some ⟨d0, 0, none⟩), .pointer (some ⟨d1, 0, none⟩), .pointer (some ⟨d2, 0, none⟩), .pointer (some ⟨d3, 0, none⟩)] 25) = w3 at *
  generalize w2.heap.size = lb at *
  generalize (some (⟨d0, 0, none⟩ : Addr)) = x0 at *
  generalize (some (⟨d1, 0, none⟩ : Addr)) = x1 at *
  generalize (some (⟨d2, 0, none⟩ : Addr)) = x2 at *
  generalize (some (⟨d3, 0, none⟩ : Addr)) = x3 at *
  have m00 : w3.cell? ⟨lb, 0, none⟩ = some (.pointer x0) := by rw [cell_of_heap HL3.out]; rfl
  refine (New_any x0 w3).mono ?_
  clear m00
  rintro e w5 ⟨c, r, rfl, hr5, hb5, hc5, hrr⟩
  have hI : RW w w5 lb r c x0 x1 x2 x3 x0 0 := by
    have h1 := heap_lt HL3.out
    have h2 := HB3.out.size
    exact ⟨HB3.out.trans (hb5.mono HB3.out.size), Below.heap' hb5 HL3.out, hr5, by omega, by omega, hc5⟩
  have HI := Lib.hid hI
  clear hI hr5 hb5 hc5 hrr HB3 HL3
  have hc := Lib.hid (HI.out.Load)
  go_wp2_with fail
  refine hc.out.mono ?_
  clear hc HI
  rintro e wn ⟨rfl, hI⟩
  have HI := Lib.hid hI
  clear hI
  obtain ⟨m0, m1, m2, m3⟩ := HI.out.cells
  have hc := Lib.hid (HI.out.Swap_yes (by omega) x1)
  go_wp2_with fail
  refine hc.out.mono ?_
  clear hc HI m0 m1 m2 m3
  rintro e wn ⟨rfl, hI⟩
  have HI := Lib.hid hI
  clear hI
  obtain ⟨m0, m1, m2, m3⟩ := HI.out.cells
  have hc := Lib.hid (HI.out.Swap_no 0 (by decide) x2)
  go_wp2_with fail
  refine hc.out.mono ?_
  clear hc HI m0 m1 m2 m3
  rintro e wn ⟨rfl, hI⟩
  have HI := Lib.hid hI
  clear hI
  have hc := Lib.hid (HI.out.Valid 0 false (by decide))
  go_wp2_with fail
  refine hc.out.mono ?_
  clear hc HI
  rintro e wn ⟨rfl, hI⟩
  have HI := Lib.hid hI
  clear hI
  have hc := Lib.hid (HI.out.Valid 1 true (by decide))
  go_wp2_with fail
  refine hc.out.mono ?_
  clear hc HI
  rintro e wn ⟨rfl, hI⟩
  have HI := Lib.hid hI
  clear hI
  have hlr := HI.out.lr
  have hb7 := (Below.refl wn.heap.size wn).alloc (Nat.le_refl _) (.cells #[.int .i64 0] 3)
  have hlb : lb < wn.heap.size := heap_lt HI.out.l
  have HP7 := Lib.hid (show PreK 0 wn.heap.size lb x0 x1 x2 x3 (wn.alloc (.cells #[.int .i64 0] 3)) from ⟨heap_alloc_new _ _, heap_alloc_old _ HI.out.l⟩)
  have HB7 := Lib.hid (HI.out.bel.trans (hb7.mono HI.out.bel.size))
  have hwn : w.heap.size ≤ wn.heap.size := HI.out.bel.size
  have hsz7 : (wn.alloc (.cells #[.int .i64 0] 3)).heap.size = wn.heap.size + 1 := by simp
  clear HI hb7 hlr
  go_wp2_with fail
  generalize wn.alloc (.cells #[.int .i64 0] 3) = w7 at *
  obtain ⟨ab, habe⟩ : ∃ ab, wn.heap.size = ab := ⟨_, rfl⟩
  rw [habe] at HP7 hlb hwn hsz7 ⊢
  clear habe
  refine (Lazy_any 18 #[.pointer (some ⟨ab, 0, none⟩), .pointer (some ⟨lb, 0, none⟩)] w7).mono ?_
  rintro e w8 ⟨rfl, hr8, hb8⟩
  have hI : KZ w w8 ab lb w7.heap.size x0 x1 x2 x3 0 := by
    exact ⟨HB7.out.trans (hb8.mono HB7.out.size), HP7.out.upd (Upd.of_below (S := []) hb8) (by simp) (by simp), .inl ⟨rfl, hr8⟩, by omega, by omega⟩
  have HI := Lib.hid hI
  clear hI hb8 hr8 HP7 HB7 hlb hwn hsz7
  generalize w7.heap.size = z at HI ⊢
  obtain ⟨m0, m1, m2, m3, b0⟩ := HI.out.cells
  have hc := Lib.hid (HI.out.Version)
  go_wp2_with fail
  refine hc.out.mono ?_
  clear hc HI m0 m1 m2 m3 b0
  rintro e wn ⟨rfl, hI⟩
  have HI := Lib.hid hI
  clear hI
  obtain ⟨m0, m1, m2, m3, b0⟩ := HI.out.cells
  have hc := Lib.hid (HI.out.Load)
  go_wp2_with fail
  refine hc.out.mono ?_
  clear hc HI m0 m1 m2 m3 b0
  rintro e wn ⟨rfl, hI⟩
  have HI := Lib.hid hI
  clear hI
  have hc := Lib.hid (HI.out.quiet (Load_none none _ (load_nil _)))
  go_wp2_with fail
  refine hc.out.mono ?_
  clear hc HI
  rintro e wn ⟨rfl, hI⟩
  have HI := Lib.hid hI
  clear hI
  have hc := Lib.hid (HI.out.root0.quiet (Load_none _ _ (root0_no _)))
  go_wp2_with fail
  refine hc.out.mono ?_
  clear hc HI
  rintro e wn ⟨rfl, hI⟩
  have HI := Lib.hid hI
  clear hI
  have hc := Lib.hid (Lazy_nil wn)
  go_wp2_with fail
  refine hc.out.mono ?_
  clear hc
  rintro e w10 ⟨c10, r10, rfl, hr10, hb10, hc10, hrr10⟩
  have hlt := HI.out.lt
  have HR := Lib.hid hr10
  have hI := HI.out.below hb10
  clear HI hr10 hb10
  have hc := Lib.hid (hI.fresh HR.out (by omega) (by omega) (by omega) (by omega) HR.out.Load)
  clear hI HR hc10 hrr10 hlt
  go_wp2_with fail
  refine hc.out.mono ?_
  clear hc
  rintro e wn ⟨rfl, hI⟩
  have HI := Lib.hid hI
  clear hI
  have hc := Lib.hid (New_any none wn)
  go_wp2_with fail
  refine hc.out.mono ?_
  clear hc
  rintro e w10 ⟨c10, r10, rfl, hr10, hb10, hc10, hrr10⟩
  have hlt := HI.out.lt
  have HR := Lib.hid hr10
  have hI := HI.out.below hb10
  clear HI hr10 hb10
  have hc := Lib.hid (hI.fresh HR.out (by omega) (by omega) (by omega) (by omega) HR.out.Load)
  clear hI HR hc10 hrr10 hlt
  go_wp2_with fail
  refine hc.out.mono ?_
  clear hc
  rintro e wn ⟨rfl, hI⟩
  have HI := Lib.hid hI
  clear hI
  have hc := Lib.hid (HI.out.quiet (awake19_any wn))
  go_wp2_with fail
  refine hc.out.mono ?_
  clear hc HI
  rintro e wn ⟨rfl, hI⟩
  have HI := Lib.hid hI
  clear hI
  obtain ⟨m0, m1, m2, m3, b0⟩ := HI.out.cells
  have hc := Lib.hid (HI.out.quiet (Valid_none none 0 wn (load_nil wn)))
  go_wp2_with fail
  refine hc.out.mono ?_
  clear hc HI m0 m1 m2 m3 b0
  rintro e wn ⟨rfl, hI⟩
  have HI := Lib.hid hI
  clear hI
  have hc := Lib.hid (HI.out.quiet (Version_none none wn (load_nil wn)))
  go_wp2_with fail
  refine hc.out.mono ?_
  clear hc HI
  rintro e wn ⟨rfl, hI⟩
  have HI := Lib.hid hI
  clear hI
  obtain ⟨m0, m1, m2, m3, b0⟩ := HI.out.cells
  have hc := Lib.hid (HI.out.quiet (Swap_none none 0 x0 wn (load_nil wn)))
  go_wp2_with fail
  refine hc.out.mono ?_
  clear hc HI m0 m1 m2 m3 b0
  rintro e wn ⟨rfl, hI⟩
  have HI := Lib.hid hI
  clear hI
  have hc := Lib.hid (HI.out.root0.quiet (Valid_none _ 0 _ (root0_no _)))
  go_wp2_with fail
  refine hc.out.mono ?_
  clear hc HI
  rintro e wn ⟨rfl, hI⟩
  have HI := Lib.hid hI
  clear hI
  obtain ⟨m0, m1, m2, m3, b0⟩ := HI.out.root0.cells
  have hc := Lib.hid (HI.out.root0.quiet (Swap_none _ 0 x0 _ (root0_no _)))
  go_wp2_with fail
  refine hc.out.mono ?_
  clear hc HI m0 m1 m2 m3 b0
  rintro e wn ⟨rfl, hI⟩
  have HI := Lib.hid hI
  clear hI
  have hc := Lib.hid (Lazy_nil wn)
  go_wp2_with fail
  refine hc.out.mono ?_
  clear hc
  rintro e w10 ⟨c10, r10, rfl, hr10, hb10, hc10, hrr10⟩
  have hlt := HI.out.lt
  have HR := Lib.hid hr10
  have hI := HI.out.below hb10
  clear HI hr10 hb10
  have hc := Lib.hid (hI.fresh HR.out (by omega) (by omega) (by omega) (by omega) (HR.out.Valid 0))
  clear hI HR hc10 hrr10 hlt
  go_wp2_with fail
  refine hc.out.mono ?_
  clear hc
  rintro e wn ⟨rfl, hI⟩
  have HI := Lib.hid hI
  clear hI
  go_wp2_with fail
  go_ret
  exact ⟨rfl, HI.out.bel⟩
end Go.Proofs.Ytmmnheobpbmniaa
