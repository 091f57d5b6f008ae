/- What a tree that is gone answers. The arena's Handles, as Drop asks for it. -/
import Derived.Test.YtlhobbfncjjeaaaBkTwo
import Derived.Test.YtlhobbfncjjeaaaHandlesOfNode
namespace Go.Proofs.Ytlhobbfncjjeaaa
open Go.RowKit
section
variable {w0 w : World} {ρ : Nat → Nat} {P : Nat × Nat × Nat} {gens : List Int} {free : List Bool} {D : List ArD} {rt i t : Nat} {d : ArD}
set_option maxRecDepth 100000 in
theorem Gone.look (hB : BW w0 w ρ P gens free D) (h : Gone w ρ P D rt i t d) (hh : Hd) :
    Calls Try.prog 46 #[.pointer (some ⟨t, 0, none⟩), .agg #[.int .i64 hh.1, .int .u64 hh.2], .nilFunc] w fun e w' => e = .returned (.tuple #[.agg #[.bool false, .slice none 0 0, .slice none 0 0, .slice none 0 0, .string ⟨#[]⟩, .bool false, .int .i64 0, .int .u64 0], .bool false]) ∧ Below w.heap.size w w' := by
  obtain ⟨r1, r2, c1, c2, c3, c4, c5, hq⟩ := h.cells
  obtain ⟨h1, h2⟩ := hh
  simp only
  have hget := Lib.hid fun W (hW : Below w.heap.size w W) => ANode.gGet_none d.A [] (some ⟨P.1, 0, none⟩) h1 h2 W ((hB.below hW).ag h.hd h.ta h.tc) (fun x hx => by rw [h.emp] at hx; cases hx)
  have hnf : ∀ W, (binOp .neq 1 .nilFunc .nilFunc).run Try.prog W = .ok (.bool false) W := fun W => run_neq_nil_nilFunc W 1 Try.underlying1
  clear hB h
  go_enter Try.func46, Try.ntmps46
  go_upto_region 3 with fail
  obtain ⟨hbx, hby⟩ := heap_two w (.cells #[.int .i64 h1, .int .u64 h2] 70) (.cells #[.bool false, .slice none 0 0, .slice none 0 0, .slice none 0 0, .string ⟨#[]⟩, .bool false, .int .i64 0, .int .u64 0] 89)
  have hB := below_two w (.cells #[.int .i64 h1, .int .u64 h2] 70) (.cells #[.bool false, .slice none 0 0, .slice none 0 0, .slice none 0 0, .string ⟨#[]⟩, .bool false, .int .i64 0, .int .u64 0] 89)
  generalize (w.alloc (.cells #[.int .i64 h1, .int .u64 h2] 70)).alloc (.cells #[.bool false, .slice none 0 0, .slice none 0 0, .slice none 0 0, .string ⟨#[]⟩, .bool false, .int .i64 0, .int .u64 0] 89) = W0 at *
  have k0 : W0.cell? ⟨w.heap.size, 0, none⟩ = some (.int .i64 h1) := by rw [cell_of_heap hbx]; rfl
  have k1 : W0.cell? ⟨w.heap.size, 1, none⟩ = some (.int .u64 h2) := by rw [cell_of_heap hbx]; rfl
  have c1' := keep hB c1
  have hq0 : w.heap.size < W0.heap.size := heap_lt hbx
  clear c1 c2 c3 c4 c5 hbx
  replace hby := Lib.hid hby
  replace hB := Lib.hid hB
  have hB := hB.out
  have hfin : Hid (∀ W W', Below w.heap.size w W → Upd [w.heap.size + 1] W W' → Below w.heap.size w W') := Lib.hid fun W W' hW hu => hW.trans (hu.below hW.size (by simp))
  go_region_with (go_at_call 52; refine (hget.out _ hB.drew).mono ?_; rintro z w1 ⟨rfl, hb1⟩; have hbw := hB.drew.trans (hb1.mono hB.drew.size); have hy1 := Below.heap' hb1 hby.out; have hq1 := heap_lt hy1; have y := fun k => frozen_of_heap hy1 k; obtain ⟨y0, y1, y2, y3, y4, y5, y6, y7⟩ := And.intro (y 0) (And.intro (y 1) (And.intro (y 2) (And.intro (y 3) (And.intro (y 4) (And.intro (y 5) (And.intro (y 6) (y 7))))))); obtain ⟨z0, z1, z2, z3, z4, z5, z6, z7⟩ := node_cells false none 0 0 none 0 0 none 0 0 ⟨#[]⟩ false 0 0 hy1; clear y; replace hbw := Lib.hid hbw; clear hb1 hy1)
  all_goals
    go_wp2_with fail
    refine bodyPost_ret (v := .tuple #[.agg #[.bool false, .slice none 0 0, .slice none 0 0, .slice none 0 0, .string ⟨#[]⟩, .bool false, .int .i64 0, .int .u64 0], .bool false]) (by simp [results, Try.results46, go_sem, z0, z1, z2, z3, z4, z5, z6, z7]) rfl ⟨rfl, ?_⟩
    refine hfin.out _ _ hbw.out ?_
    iterate 8 refine Upd.setCell ?_ (by simp) _
    exact Upd.refl _ _
set_option maxRecDepth 100000 in
theorem Gone.leaf (hB : BW w0 w ρ P gens free D) (h : Gone w ρ P D rt i t d) (key : Str) :
    Calls Try.prog 43 #[.pointer (some ⟨t, 0, none⟩), .string key, .nilFunc] w fun e w' => e = .returned (.tuple #[.agg #[.bool false, .slice none 0 0, .slice none 0 0, .slice none 0 0, .string ⟨#[]⟩, .bool false, .int .i64 0, .int .u64 0], .bool false]) ∧ Below w.heap.size w w' := by
  obtain ⟨r1, r2, c1, c2, c3, c4, c5, hq⟩ := h.cells
  have hl := Lib.hid fun W (hW : Below w.heap.size w W) => (h.below hB hW).look (hB.below hW) (r1, r2)
  simp only at hl
  clear hB h
  go_enter Try.func43, Try.ntmps43
  go_wp2_with fail
  go_loopg [7] 1 (fun gk v wr => gk = 1 ∧ v = .bool false ∧ Below w.heap.size w wr ∧ wr.heap[w.heap.size]? = some (.cells #[.bool false, .slice none 0 0, .slice none 0 0, .slice none 0 0, .string ⟨#[]⟩, .bool false, .int .i64 0, .int .u64 0] 89) ∧ wr.heap[w.heap.size + 1]? = some (.cells #[.int .i64 r1, .int .u64 r2] 70))
  case atStart =>
    obtain ⟨hbx, hby⟩ := heap_two w (.cells #[.bool false, .slice none 0 0, .slice none 0 0, .slice none 0 0, .string ⟨#[]⟩, .bool false, .int .i64 0, .int .u64 0] 89) (.cells #[.int .i64 r1, .int .u64 r2] 70)
    exact ⟨rfl, rfl, below_two _ _ _, hbx, hby⟩
  case round =>
    clear c1 c2 c3 c4 c5 hq
    obtain ⟨rfl, rfl, hB, hbz, hbh⟩ := hrel
    have k0 : wr.cell? ⟨w.heap.size + 1, 0, none⟩ = some (.int .i64 r1) := by rw [cell_of_heap hbh]; rfl
    have k1 : wr.cell? ⟨w.heap.size + 1, 1, none⟩ = some (.int .u64 r2) := by rw [cell_of_heap hbh]; rfl
    have hbhq := heap_lt hbh
    have hl1 := Lib.hid (hl.out wr hB)
    replace hB := Lib.hid hB
    replace hbz := Lib.hid hbz
    clear hl hbh
    go_wp2_with fail
    refine hl1.out.mono ?_
    clear hl1
    rintro e w2 ⟨rfl, hb2⟩
    have hB2 := hB.out.trans (hb2.mono hB.out.size)
    have hbz2 := Below.heap' hb2 hbz.out
    have hA : Below w2.heap.size w2 (w2.alloc (.cells #[.bool false, .slice none 0 0, .slice none 0 0, .slice none 0 0, .string ⟨#[]⟩, .bool false, .int .i64 0, .int .u64 0] 89)) := (Below.refl _ _).alloc (Nat.le_refl _) _
    have hT := heap_alloc_new w2 (.cells #[.bool false, .slice none 0 0, .slice none 0 0, .slice none 0 0, .string ⟨#[]⟩, .bool false, .int .i64 0, .int .u64 0] 89)
    have hbz3 := Below.heap' hA hbz2
    have hB3 := Lib.hid (hB2.trans (hA.mono hB2.size))
    replace hbz3 := Lib.hid hbz3
    replace hT := Lib.hid hT
    clear hb2 hB2 hbz2 hA k0 k1 hbhq
    obtain ⟨c0, c1, c2, c3, c4, c5, c6, c7⟩ := node_cells false none 0 0 none 0 0 none 0 0 ⟨#[]⟩ false 0 0 hT.out
    obtain ⟨d0, d1, d2, d3, d4, d5, d6, d7⟩ := node_cells false none 0 0 none 0 0 none 0 0 ⟨#[]⟩ false 0 0 hbz3.out
    have y := fun k => frozen_of_heap hbz3.out k
    obtain ⟨f0, f1, f2, f3, f4, f5, f6, f7⟩ := And.intro (y 0) (And.intro (y 1) (And.intro (y 2) (And.intro (y 3) (And.intro (y 4) (And.intro (y 5) (And.intro (y 6) (y 7)))))))
    have hqT := heap_lt hT.out
    have hqz3 := heap_lt hbz3.out
    clear y
    go_wp2_with fail
    refine bodyPost_ret (v := .tuple #[.agg #[.bool false, .slice none 0 0, .slice none 0 0, .slice none 0 0, .string ⟨#[]⟩, .bool false, .int .i64 0, .int .u64 0], .bool false]) (by simp [results, Try.results43, go_sem, d0, d1, d2, d3, d4, d5, d6, d7]) rfl ⟨rfl, ?_⟩
    refine hB3.out.trans (Upd.below (S := [w.heap.size]) ?_ hB3.out.size (by simp))
    iterate 8 refine Upd.setCell ?_ (by simp) _
    exact Upd.refl _ _
theorem Gone.get (hB : BW w0 w ρ P gens free D) (h : Gone w ρ P D rt i t d) (key : Str) :
    Calls Try.prog 14 #[.pointer (some ⟨t, 0, none⟩), .string key, .nilFunc] w fun e w' => e = .returned (.tuple #[.string s0, .bool false, .bool true]) ∧ Below w.heap.size w w' := by
  obtain ⟨r1, r2, c1, c2, c3, c4, c5, hq⟩ := h.cells
  have hn := none_ok c1
  have hLf := Lib.hid (h.leaf hB key)
  clear hB h
  go_enter Try.func14, Try.ntmps14
  go_wp2_with fail
  refine hn.mono ?_
  rintro e w1 ⟨rfl, rfl⟩
  go_wp2_with fail
  refine hLf.out.mono ?_
  clear hLf hn
  rintro e w2 ⟨rfl, hb⟩
  have hfin := Lib.hid (hb.trans (((Below.refl w2.heap.size w2).alloc (Nat.le_refl _) (.cells #[.bool false, .slice none 0 0, .slice none 0 0, .slice none 0 0, .string ⟨#[]⟩, .bool false, .int .i64 0, .int .u64 0] 89)).mono hb.size))
  clear hb
  go_wp2_with fail
  go_ret3
  exact ⟨rfl, hfin.out⟩
theorem Gone.check (hB : BW w0 w ρ P gens free D) (h : Gone w ρ P D rt i t d) : Calls Try.prog 19 #[.pointer (some ⟨t, 0, none⟩)] w fun e w' => e = .returned (.bool true) ∧ Below w.heap.size w w' := by
  obtain ⟨r1, r2, c1, c2, c3, c4, c5, hq⟩ := h.cells
  have hn := none_ok c1
  have hl := Lib.hid (h.live hB)
  have hcl := Lib.hid fun W (hb : Below w.heap.size w W) => keep hb c4
  clear h hB
  go_enter Try.func19, Try.ntmps19
  go_wp2_with fail
  refine hn.mono ?_
  rintro e w1 ⟨rfl, rfl⟩
  go_wp2_with fail
  refine hl.out.mono ?_
  rintro e w2 ⟨rfl, hb⟩
  have j4 := hcl.out w2 hb
  have hq4 := block_lt_of_cell j4
  go_wp2_with fail
  go_ret
  exact ⟨by simp, hb⟩
theorem Gone.next (hB : BW w0 w ρ P gens free D) (h : Gone w ρ P D rt i t d) (key : Str) (after : Bool) :
    Calls Try.prog 17 #[.pointer (some ⟨t, 0, none⟩), .string key, .bool after, .nilFunc] w fun e w' => e = .returned (.tuple #[.string s0, .string s0, .bool false, .bool true]) ∧ Below w.heap.size w w' := by
  obtain ⟨r1, r2, c1, c2, c3, c4, c5, hq⟩ := h.cells
  have hn := none_ok c1
  have hLf := Lib.hid (h.leaf hB key)
  clear hB h
  go_enter Try.func17, Try.ntmps17
  go_wp2_with fail
  refine hn.mono ?_
  rintro e w1 ⟨rfl, rfl⟩
  go_wp2_with fail
  refine hLf.out.mono ?_
  clear hLf hn
  rintro e w2 ⟨rfl, hb⟩
  have hfin := Lib.hid (hb.trans (((Below.refl w2.heap.size w2).alloc (Nat.le_refl _) (.cells #[.bool false, .slice none 0 0, .slice none 0 0, .slice none 0 0, .string ⟨#[]⟩, .bool false, .int .i64 0, .int .u64 0] 89)).mono hb.size))
  clear hb
  go_wp2_with fail
  go_loopg [13, 14, 15] 0 (fun gk v v2 v3 wr => v = .bool false ∧ Below w.heap.size w wr)
  case atStart => exact ⟨rfl, hfin.out⟩
  case round =>
    obtain ⟨rfl, hB⟩ := hrel
    replace hB := Lib.hid hB
    clear hfin
    go_wp2_with fail
    refine bodyPost_ret (v := .tuple #[.string ⟨#[]⟩, .string ⟨#[]⟩, .bool false, .bool true]) (by simp [results, Try.results17, go_sem]) rfl ⟨rfl, hB.out⟩
theorem Gone.allv (h : Gone w ρ P D rt i t d) : Calls Try.prog 22 #[.pointer (some ⟨t, 0, none⟩)] w (AllEnd w []) := by
  obtain ⟨r1, r2, c1, c2, c3, c4, c5, hq⟩ := h.cells
  have hn := none_ok c1
  clear h
  go_enter Try.func22, Try.ntmps22
  go_wp2_with fail
  refine hn.mono ?_
  rintro e w1 ⟨rfl, rfl⟩
  go_wp2_with fail
  go_ret
  exact ⟨none, 0, rfl, Row.nil pcel_len pcel_one _ _ _, Below.refl _ _⟩
end
end Go.Proofs.Ytlhobbfncjjeaaa
namespace Go.Proofs.Ytlhobbfncjjeaaa
open Go.RowKit
theorem hands_ok : HandsOK := by
  intro A p W h hb hl
  refine (ANode.aHandles_any A [] p W h hb hl).mono ?_
  rintro e w' ⟨a, c, he, hr, hb'⟩
  refine ⟨a, c, handsOf A.L, he, ?_, List.mergeSort_perm _ _, hb'⟩
  exact hr
end Go.Proofs.Ytlhobbfncjjeaaa
