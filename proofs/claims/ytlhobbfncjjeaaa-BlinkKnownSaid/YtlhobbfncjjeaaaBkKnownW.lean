/- What a nil tree, one that New did not make, and one that is gone answer. BlinkKnown: the tree beside its box, from New to the reader whose tree is dropped; the contracts that the walk calls. The walk of the law BlinkKnown: it returns true. -/
import Derived.Test.YtlhobbfncjjeaaaBkDrop
import Derived.Test.YtlhobbfncjjeaaaBkKnownG
import Derived.Test.YtlhobbfncjjeaaaBkAwake
import Derived.Test.YtlhobbfncjjeaaaBkHands
namespace Go.Proofs.Ytlhobbfncjjeaaa
open Go.RowKit
theorem none_zero {w : World} {z : Nat} (h : w.cell? ⟨z, 1, none⟩ = some (.pointer none)) : Calls Try.prog 42 #[.pointer (some ⟨z, 0, none⟩)] w fun e w' => e = .returned (.bool true) ∧ w = w' := by
  have hq := block_lt_of_cell h
  go_enter Try.func42, Try.ntmps42
  go_wp2
  go_ret
  exact ⟨rfl, rfl⟩
theorem drop_nil (w : World) : Calls Try.prog 32 #[.pointer none] w fun e w' => e = .returned (.tuple #[]) ∧ w = w' := by
  have hn := none_nil w
  go_enter Try.func32, Try.ntmps32
  go_wp2_with fail
  refine hn.mono ?_
  rintro e w1 ⟨rfl, rfl⟩
  go_wp2_with fail
  refine bodyPost_ret (v := .tuple #[]) (by simp [results, Try.results32, go_sem]) rfl ⟨rfl, rfl⟩
theorem get_nil (key : Str) (w : World) : Calls Try.prog 14 #[.pointer none, .string key, .nilFunc] w fun e w' => e = .returned (.tuple #[.string s0, .bool false, .bool true]) ∧ w = w' := by
  have hn := none_nil w
  go_enter Try.func14, Try.ntmps14
  go_wp2_with fail
  refine hn.mono ?_
  rintro e w1 ⟨rfl, rfl⟩
  go_wp2_with fail
  go_ret3
  exact ⟨rfl, rfl⟩
theorem put_nil (key v : Str) (w : World) : Calls Try.prog 25 #[.pointer none, .string key, .string v] w fun e w' => e = .returned (.tuple #[.string s0, .bool false, .int .i64 2]) ∧ w = w' := by
  have hn := none_nil w
  go_enter Try.func25, Try.ntmps25
  go_wp2_with fail
  refine hn.mono ?_
  rintro e w1 ⟨rfl, rfl⟩
  go_wp2_with fail
  go_ret3
  exact ⟨rfl, rfl⟩
theorem len_nil (w : World) : Calls Try.prog 24 #[.pointer none] w fun e w' => e = .returned (.int .i64 0) ∧ w = w' := by
  have hn := none_nil w
  go_enter Try.func24, Try.ntmps24
  go_wp2_with fail
  refine hn.mono ?_
  rintro e w1 ⟨rfl, rfl⟩
  go_wp2_with fail
  go_ret
  exact ⟨rfl, rfl⟩
theorem slots_nil (w : World) : Calls Try.prog 29 #[.pointer none] w fun e w' => e = .returned (.int .i64 0) ∧ w = w' := by
  have hn := none_nil w
  go_enter Try.func29, Try.ntmps29
  go_wp2_with fail
  refine hn.mono ?_
  rintro e w1 ⟨rfl, rfl⟩
  go_wp2_with fail
  go_ret
  exact ⟨rfl, rfl⟩
theorem all_nil (w : World) : Calls Try.prog 22 #[.pointer none] w fun e w' => e = .returned (.slice none 0 0) ∧ w = w' := by
  have hn := none_nil w
  go_enter Try.func22, Try.ntmps22
  go_wp2_with fail
  refine hn.mono ?_
  rintro e w1 ⟨rfl, rfl⟩
  go_wp2_with fail
  go_ret
  exact ⟨rfl, rfl⟩
theorem check_nil (w : World) : Calls Try.prog 19 #[.pointer none] w fun e w' => e = .returned (.bool false) ∧ w = w' := by
  have hn := none_nil w
  go_enter Try.func19, Try.ntmps19
  go_wp2_with fail
  refine hn.mono ?_
  rintro e w1 ⟨rfl, rfl⟩
  go_wp2_with fail
  go_ret
  exact ⟨rfl, rfl⟩
theorem next_zero {w : World} {z : Nat} (h : w.cell? ⟨z, 1, none⟩ = some (.pointer none)) (key : Str) (after : Bool) : Calls Try.prog 17 #[.pointer (some ⟨z, 0, none⟩), .string key, .bool after, .nilFunc] w fun e w' => e = .returned (.tuple #[.string s0, .string s0, .bool false, .bool true]) ∧ w = w' := by
  have hn := none_zero h
  go_enter Try.func17, Try.ntmps17
  go_wp2_with fail
  refine hn.mono ?_
  rintro e w1 ⟨rfl, rfl⟩
  go_wp2_with fail
  refine bodyPost_ret (v := .tuple #[.string ⟨#[]⟩, .string ⟨#[]⟩, .bool false, .bool true]) (by simp [results, Try.results17, go_sem]) rfl ⟨rfl, rfl⟩
theorem del_zero {w : World} {z : Nat} (h : w.cell? ⟨z, 1, none⟩ = some (.pointer none)) (key : Str) : Calls Try.prog 26 #[.pointer (some ⟨z, 0, none⟩), .string key] w fun e w' => e = .returned (.tuple #[.string s0, .bool false]) ∧ w = w' := by
  have hn := none_zero h
  go_enter Try.func26, Try.ntmps26
  go_wp2_with fail
  refine hn.mono ?_
  rintro e w1 ⟨rfl, rfl⟩
  go_wp2_with fail
  go_ret2
  exact ⟨rfl, rfl⟩
section
variable {w0 w : World} {ρ : Nat → Nat} {P : Nat × Nat × Nat} {gens : List Int} {free : List Bool} {D : List ArD} {rt i t : Nat} {d : ArD}
set_option maxRecDepth 100000 in
theorem Gone.look (hB : BW w0 w ρ P gens free D) (h : Gone w ρ P D rt i t d) (hh : Hd) :
    Calls Try.prog 46 #[.pointer (some ⟨t, 0, none⟩), .agg #[.int .i64 hh.1, .int .u64 hh.2], .nilFunc] w fun e w' => e = .returned (.tuple #[.agg #[.bool false, .slice none 0 0, .slice none 0 0, .slice none 0 0, .string ⟨#[]⟩, .bool false, .int .i64 0, .int .u64 0], .bool false]) ∧ Below w.heap.size w w' := by
  obtain ⟨r1, r2, c1, c2, c3, c4, c5, hq⟩ := h.cells
  obtain ⟨h1, h2⟩ := hh
  simp only
  have hget := Lib.hid fun W (hW : Below w.heap.size w W) => ANode.gGet_none d.A [] (some ⟨P.1, 0, none⟩) h1 h2 W ((hB.below hW).ag h.hd h.ta h.tc) (fun x hx => by rw [h.emp] at hx; cases hx)
  have hnf : ∀ W, (binOp .neq 1 .nilFunc .nilFunc).run Try.prog W = .ok (.bool false) W := fun W => run_neq_nil_nilFunc W 1 Try.underlying1
  clear hB h
  go_enter Try.func46, Try.ntmps46
  go_upto_region 3 with fail
  obtain ⟨hbx, hby⟩ := heap_two w (.cells #[.int .i64 h1, .int .u64 h2] 70) (.cells #[.bool false, .slice none 0 0, .slice none 0 0, .slice none 0 0, .string ⟨#[]⟩, .bool false, .int .i64 0, .int .u64 0] 89)
  have hB := below_two w (.cells #[.int .i64 h1, .int .u64 h2] 70) (.cells #[.bool false, .slice none 0 0, .slice none 0 0, .slice none 0 0, .string ⟨#[]⟩, .bool false, .int .i64 0, .int .u64 0] 89)
  generalize (w.alloc (.cells #[.int .i64 h1, .int .u64 h2] 70)).alloc (.cells #[.bool false, .slice none 0 0, .slice none 0 0, .slice none 0 0, .string ⟨#[]⟩, .bool false, .int .i64 0, .int .u64 0] 89) = W0 at *
  have k0 : W0.cell? ⟨w.heap.size, 0, none⟩ = some (.int .i64 h1) := by rw [cell_of_heap hbx]; rfl
  have k1 : W0.cell? ⟨w.heap.size, 1, none⟩ = some (.int .u64 h2) := by rw [cell_of_heap hbx]; rfl
  have c1' := keep hB c1
  have hq0 : w.heap.size < W0.heap.size := heap_lt hbx
  clear c1 c2 c3 c4 c5 hbx
  replace hby := Lib.hid hby
  replace hB := Lib.hid hB
  have hB := hB.out
  have hfin : Hid (∀ W W', Below w.heap.size w W → Upd [w.heap.size + 1] W W' → Below w.heap.size w W') := Lib.hid fun W W' hW hu => hW.trans (hu.below hW.size (by simp))
  go_region_with (go_at_call 52; refine (hget.out _ hB.drew).mono ?_; rintro z w1 ⟨rfl, hb1⟩; have hbw := hB.drew.trans (hb1.mono hB.drew.size); have hy1 := Below.heap' hb1 hby.out; have hq1 := heap_lt hy1; have y := fun k => frozen_of_heap hy1 k; obtain ⟨y0, y1, y2, y3, y4, y5, y6, y7⟩ := And.intro (y 0) (And.intro (y 1) (And.intro (y 2) (And.intro (y 3) (And.intro (y 4) (And.intro (y 5) (And.intro (y 6) (y 7))))))); obtain ⟨z0, z1, z2, z3, z4, z5, z6, z7⟩ := node_cells false none 0 0 none 0 0 none 0 0 ⟨#[]⟩ false 0 0 hy1; clear y; replace hbw := Lib.hid hbw; clear hb1 hy1)
  all_goals
    go_wp2_with fail
    refine bodyPost_ret (v := .tuple #[.agg #[.bool false, .slice none 0 0, .slice none 0 0, .slice none 0 0, .string ⟨#[]⟩, .bool false, .int .i64 0, .int .u64 0], .bool false]) (by simp [results, Try.results46, go_sem, z0, z1, z2, z3, z4, z5, z6, z7]) rfl ⟨rfl, ?_⟩
    refine hfin.out _ _ hbw.out ?_
    iterate 8 refine Upd.setCell ?_ (by simp) _
    exact Upd.refl _ _
set_option maxRecDepth 100000 in
theorem Gone.leaf (hB : BW w0 w ρ P gens free D) (h : Gone w ρ P D rt i t d) (key : Str) :
    Calls Try.prog 43 #[.pointer (some ⟨t, 0, none⟩), .string key, .nilFunc] w fun e w' => e = .returned (.tuple #[.agg #[.bool false, .slice none 0 0, .slice none 0 0, .slice none 0 0, .string ⟨#[]⟩, .bool false, .int .i64 0, .int .u64 0], .bool false]) ∧ Below w.heap.size w w' := by
  obtain ⟨r1, r2, c1, c2, c3, c4, c5, hq⟩ := h.cells
  have hl := Lib.hid fun W (hW : Below w.heap.size w W) => (h.below hB hW).look (hB.below hW) (r1, r2)
  simp only at hl
  clear hB h
  go_enter Try.func43, Try.ntmps43
  go_wp2_with fail
  go_loopg [7] 1 (fun gk v wr => gk = 1 ∧ v = .bool false ∧ Below w.heap.size w wr ∧ wr.heap[w.heap.size]? = some (.cells #[.bool false, .slice none 0 0, .slice none 0 0, .slice none 0 0, .string ⟨#[]⟩, .bool false, .int .i64 0, .int .u64 0] 89) ∧ wr.heap[w.heap.size + 1]? = some (.cells #[.int .i64 r1, .int .u64 r2] 70))
  case atStart =>
    obtain ⟨hbx, hby⟩ := heap_two w (.cells #[.bool false, .slice none 0 0, .slice none 0 0, .slice none 0 0, .string ⟨#[]⟩, .bool false, .int .i64 0, .int .u64 0] 89) (.cells #[.int .i64 r1, .int .u64 r2] 70)
    exact ⟨rfl, rfl, below_two _ _ _, hbx, hby⟩
  case round =>
    clear c1 c2 c3 c4 c5 hq
    obtain ⟨rfl, rfl, hB, hbz, hbh⟩ := hrel
    have k0 : wr.cell? ⟨w.heap.size + 1, 0, none⟩ = some (.int .i64 r1) := by rw [cell_of_heap hbh]; rfl
    have k1 : wr.cell? ⟨w.heap.size + 1, 1, none⟩ = some (.int .u64 r2) := by rw [cell_of_heap hbh]; rfl
    have hbhq := heap_lt hbh
    have hl1 := Lib.hid (hl.out wr hB)
    replace hB := Lib.hid hB
    replace hbz := Lib.hid hbz
    clear hl hbh
    go_wp2_with fail
    refine hl1.out.mono ?_
    clear hl1
    rintro e w2 ⟨rfl, hb2⟩
    have hB2 := hB.out.trans (hb2.mono hB.out.size)
    have hbz2 := Below.heap' hb2 hbz.out
    have hA : Below w2.heap.size w2 (w2.alloc (.cells #[.bool false, .slice none 0 0, .slice none 0 0, .slice none 0 0, .string ⟨#[]⟩, .bool false, .int .i64 0, .int .u64 0] 89)) := (Below.refl _ _).alloc (Nat.le_refl _) _
    have hT := heap_alloc_new w2 (.cells #[.bool false, .slice none 0 0, .slice none 0 0, .slice none 0 0, .string ⟨#[]⟩, .bool false, .int .i64 0, .int .u64 0] 89)
    have hbz3 := Below.heap' hA hbz2
    have hB3 := Lib.hid (hB2.trans (hA.mono hB2.size))
    replace hbz3 := Lib.hid hbz3
    replace hT := Lib.hid hT
    clear hb2 hB2 hbz2 hA k0 k1 hbhq
    obtain ⟨c0, c1, c2, c3, c4, c5, c6, c7⟩ := node_cells false none 0 0 none 0 0 none 0 0 ⟨#[]⟩ false 0 0 hT.out
    obtain ⟨d0, d1, d2, d3, d4, d5, d6, d7⟩ := node_cells false none 0 0 none 0 0 none 0 0 ⟨#[]⟩ false 0 0 hbz3.out
    have y := fun k => frozen_of_heap hbz3.out k
    obtain ⟨f0, f1, f2, f3, f4, f5, f6, f7⟩ := And.intro (y 0) (And.intro (y 1) (And.intro (y 2) (And.intro (y 3) (And.intro (y 4) (And.intro (y 5) (And.intro (y 6) (y 7)))))))
    have hqT := heap_lt hT.out
    have hqz3 := heap_lt hbz3.out
    clear y
    go_wp2_with fail
    refine bodyPost_ret (v := .tuple #[.agg #[.bool false, .slice none 0 0, .slice none 0 0, .slice none 0 0, .string ⟨#[]⟩, .bool false, .int .i64 0, .int .u64 0], .bool false]) (by simp [results, Try.results43, go_sem, d0, d1, d2, d3, d4, d5, d6, d7]) rfl ⟨rfl, ?_⟩
    refine hB3.out.trans (Upd.below (S := [w.heap.size]) ?_ hB3.out.size (by simp))
    iterate 8 refine Upd.setCell ?_ (by simp) _
    exact Upd.refl _ _
theorem Gone.get (hB : BW w0 w ρ P gens free D) (h : Gone w ρ P D rt i t d) (key : Str) :
    Calls Try.prog 14 #[.pointer (some ⟨t, 0, none⟩), .string key, .nilFunc] w fun e w' => e = .returned (.tuple #[.string s0, .bool false, .bool true]) ∧ Below w.heap.size w w' := by
  obtain ⟨r1, r2, c1, c2, c3, c4, c5, hq⟩ := h.cells
  have hn := none_ok c1
  have hLf := Lib.hid (h.leaf hB key)
  clear hB h
  go_enter Try.func14, Try.ntmps14
  go_wp2_with fail
  refine hn.mono ?_
  rintro e w1 ⟨rfl, rfl⟩
  go_wp2_with fail
  refine hLf.out.mono ?_
  clear hLf hn
  rintro e w2 ⟨rfl, hb⟩
  have hfin := Lib.hid (hb.trans (((Below.refl w2.heap.size w2).alloc (Nat.le_refl _) (.cells #[.bool false, .slice none 0 0, .slice none 0 0, .slice none 0 0, .string ⟨#[]⟩, .bool false, .int .i64 0, .int .u64 0] 89)).mono hb.size))
  clear hb
  go_wp2_with fail
  go_ret3
  exact ⟨rfl, hfin.out⟩
theorem Gone.check (hB : BW w0 w ρ P gens free D) (h : Gone w ρ P D rt i t d) : Calls Try.prog 19 #[.pointer (some ⟨t, 0, none⟩)] w fun e w' => e = .returned (.bool true) ∧ Below w.heap.size w w' := by
  obtain ⟨r1, r2, c1, c2, c3, c4, c5, hq⟩ := h.cells
  have hn := none_ok c1
  have hl := Lib.hid (h.live hB)
  have hcl := Lib.hid fun W (hb : Below w.heap.size w W) => keep hb c4
  clear h hB
  go_enter Try.func19, Try.ntmps19
  go_wp2_with fail
  refine hn.mono ?_
  rintro e w1 ⟨rfl, rfl⟩
  go_wp2_with fail
  refine hl.out.mono ?_
  rintro e w2 ⟨rfl, hb⟩
  have j4 := hcl.out w2 hb
  have hq4 := block_lt_of_cell j4
  go_wp2_with fail
  go_ret
  exact ⟨by simp, hb⟩
end
end Go.Proofs.Ytlhobbfncjjeaaa
namespace Go.Proofs.Ytlhobbfncjjeaaa
open Go.RowKit
def KB (bx t : Nat) (w : World) (ρ : Nat → Nat) : Prop := w.heap[bx]? = some (.cells #[.pointer (some ⟨t, 0, none⟩)] 31) ∧ ρ bx = 0
theorem kb_ok (bx t : Nat) : KOK (KB bx t) := fun rs w w' ρ ρ' h0 _ hu ⟨h1, h2⟩ => ⟨hu.heap h1 (by rw [h2]; exact h0), by rw [hu.role _ (heap_lt h1)]; exact h2⟩
section
variable {w0 w : World} {p t c0 lv bx : Nat} {C : Cont} {fat : Bool}
theorem TreeK.new {g f : Nat} (hb : Below w0.heap.size w0 w) (hp : PoolIs w p g f (List.replicate 10 1) (List.replicate 10 true)) (hl : w0.heap.size ≤ p ∧ w0.heap.size ≤ g ∧ w0.heap.size ≤ f) :
    Calls Try.prog 11 #[.pointer (some ⟨p, 0, none⟩)] w fun e w' => ∃ t, e = .returned (.tuple #[.pointer (some ⟨t, 0, none⟩), .int .i64 0]) ∧ TreeK (fun _ _ => True) w0 w' p t [] 10 1 true := by
  have hpg := hp.2.2.1
  have hpf := hp.2.2.2.1
  have hgf := hp.2.2.2.2.1
  have hlp := heap_lt hp.2.2.2.2.2.1
  have hlg := heap_lt hp.2.2.2.2.2.2.1
  have hlf := heap_lt hp.2.2.2.2.2.2.2
  have hro : Ro w0 w (mark (mark (mark (fun _ => 0) p 1) g 2) f 3) := by
    refine ⟨hb, fun k hk => ?_, fun k hk => ?_⟩ <;> rw [mark_other (by omega), mark_other (by omega), mark_other (by omega)]
  have hB : BW w0 w (mark (mark (mark (fun _ => 0) p 1) g 2) f 3) (p, g, f) (List.replicate 10 1) (List.replicate 10 true) [] :=
    ⟨hro, ⟨⟨hp, by rw [mark_other hpf, mark_other hpg, mark_self], by rw [mark_other hgf, mark_self], mark_self⟩, fun i d hd => by simp at hd⟩⟩
  have hin : true ∈ List.replicate 10 true := List.mem_replicate.2 ⟨by omega, rfl⟩
  refine (bkNew_some (rt := 4) hB hin (by omega)).mono ?_
  rintro e w' ⟨t, ρ', d, r, he, hB', hT', hU', _⟩
  refine ⟨t, he, ρ', (p, g, f), _, _, _, 0, d, [[(r, leaf0)]], r, ⟨rfl, List.length_replicate⟩, hB', ?_, slim0 r, ?_, ?_, ?_, fun _ => .inl rfl, rfl, trivial⟩
  · exact hT'
  · simp [content, cont, BN.pairs, leaf0]
  · have := count_one hin
    have h2 : nodes [[(r, leaf0)]] = 1 := rfl
    rw [h2]
    simp only [List.count_replicate_self] at this ⊢
    omega
  · show leaves [[(r, leaf0)]] ≤ 1
    exact Nat.le_refl 1
theorem TreeK.box (h : TreeK (fun _ _ => True) w0 w p t C c0 lv fat) : TreeK (KB w.heap.size t) w0 (w.alloc (.cells #[.pointer (some ⟨t, 0, none⟩)] 31)) p t C c0 lv fat := by
  have hA : Below w.heap.size w (w.alloc (.cells #[.pointer (some ⟨t, 0, none⟩)] 31)) := (Below.refl _ _).alloc (Nat.le_refl _) _
  obtain ⟨ρ, P, gens, free, D, i, d, Ls, r, h1, h2, h3, h4, h5, h6, h7, h8, h9, h10⟩ := h
  exact ⟨ρ, P, gens, free, D, i, d, Ls, r, h1, h2.below hA, h3.below h2 hA, h4, h5, h6, h7, h8, h9, heap_alloc_new _ _, h2.ro.far _ (Nat.le_refl _)⟩
theorem TreeK.cell (h : TreeK (KB bx t) w0 w p t C c0 lv fat) : w.cell? ⟨bx, 0, none⟩ = some (.pointer (some ⟨t, 0, none⟩)) ∧ bx < w.heap.size := by
  obtain ⟨ρ, h1, _⟩ := h.k
  exact ⟨by rw [cell_of_heap h1]; rfl, heap_lt h1⟩
theorem TreeR.cell (h : TreeR (KB bx t) w0 w p t C c0) : w.cell? ⟨bx, 0, none⟩ = some (.pointer (some ⟨t, 0, none⟩)) ∧ bx < w.heap.size := by
  obtain ⟨ρ, P, gens, free, D, i, d, Ls, r, h1, h2, h3, h4, h5, h6, h7, h8, h9, h10, h11, _⟩ := h
  exact ⟨by rw [cell_of_heap h11]; rfl, heap_lt h11⟩
theorem TreeR.below {w' : World} (h : TreeR (KB bx t) w0 w p t C c0) (hb : Below w.heap.size w w') : TreeR (KB bx t) w0 w' p t C c0 := by
  obtain ⟨ρ, P, gens, free, D, i, d, Ls, r, h1, h2, h3, h4, h5, h6, h7, h8, h9, h10, h11⟩ := h
  exact ⟨ρ, P, gens, free, D, i, d, Ls, r, h1, h2.below hb, h3.below h2 hb, h4, h5, h6, h7, h8, h9, h10, kb_ok bx t [] _ _ _ _ (by simp) (by simp) (RU.below h2.ro hb) h11⟩
theorem TreeR.slots (h : TreeR (KB bx t) w0 w p t C c0) : Calls Try.prog 29 #[.pointer (some ⟨t, 0, none⟩)] w fun e w' => e = .returned (.int .i64 3) ∧ Below w.heap.size w w' := by
  obtain ⟨ρ, P, gens, free, D, i, d, Ls, r, h1, h2, h3, h4, h5, h6, h7, h8, h9, h10, h11⟩ := h
  have := h3.slots h2
  rw [h7] at this
  exact this
theorem TreeR.check (h : TreeR (KB bx t) w0 w p t C c0) (hC : C.length ≤ 100000) : Calls Try.prog 19 #[.pointer (some ⟨t, 0, none⟩)] w fun e w' => e = .returned (.bool true) ∧ Below w.heap.size w w' := by
  obtain ⟨ρ, P, gens, free, D, i, d, Ls, r, h1, h2, h3, h4, h5, h6, h7, h8, h9, h10, h11⟩ := h
  exact h3.check h2 h4 (by omega) (by rw [h5]; exact hC) (by rw [h5])
theorem TreeR.late (hH : HandsOK) (h : TreeR (KB bx t) w0 w p t C c0) {W : World} (hb : Below w.heap.size w W) {b : Nat} (hbb : w.heap.size ≤ b) (hbox : W.heap[b]? = some (.cells #[.int .i64 0] 3)) (key : Str) :
    Calls Try.prog 14 #[.pointer (some ⟨t, 0, none⟩), .string key, .func (.func 33) #[] #[.pointer (some ⟨b, 0, none⟩), .pointer (some ⟨bx, 0, none⟩)]] W fun e W' => e = .returned (.tuple #[.string s0, .bool false, .bool true]) ∧ TreeG (KB bx t) w0 W' p t c0 := by
  obtain ⟨ρ, P, gens, free, D, i, d, Ls, r, h1, h2, h3, h4, h5, h6, h7, h8, h9, h10, h11, h12⟩ := h
  have hsn : Sane Ls := ⟨h3.tow, h4, h9, by omega⟩
  have hbw : bx < w.heap.size := heap_lt h11
  replace h2 := (h2.reC (c := 7) (.inl rfl))
  replace h3 := (h3.reC (c := 7) (.inl rfl))
  have hbl := heap_lt hbox
  have hru : RU [] w W (reC 7 ρ) (mark (reC 7 ρ) b 7) := (RU.below h2.ro hb).mark hbb hbl
  have h2' : BW w0 W (mark (reC 7 ρ) b 7) P gens free D := h2.turn0 hru (h2.ro.bel.trans (hb.mono h2.ro.bel.size)) (by simp)
  have h0 : mark (reC 7 ρ) b 7 bx = 0 := by rw [mark_other (by omega)]; exact reC_of h12 (by omega)
  have hI : CntI w0 (mark (reC 7 ρ) b 7) P gens free D 4 i t d Ls r C.length b 0 W (mark (reC 7 ρ) b 7) := ⟨rfl, h2', h3.ru hru (by simp) (by simp), mark_self, hbox⟩
  refine (get_drop hH (w := W) (bx := bx) (c0 := c0) ⟨hI, Below.heap' hb h11, h0, h10, h1.2, h6, hsn, h8⟩ key).mono ?_
  rintro e W' ⟨he, gens', free', D', d', g1, g2, g3, g4, g5, g6⟩
  exact ⟨he, _, P, gens', free', D', i, d', ⟨h1.1, g1⟩, g2, g3, g4, g5, h0⟩
theorem TreeG.cell (h : TreeG (KB bx t) w0 w p t c0) : w.cell? ⟨bx, 0, none⟩ = some (.pointer (some ⟨t, 0, none⟩)) ∧ bx < w.heap.size := by
  obtain ⟨ρ, P, gens, free, D, i, d, h1, h2, h3, h4, h5, _⟩ := h
  exact ⟨by rw [cell_of_heap h5]; rfl, heap_lt h5⟩
theorem TreeG.below {w' : World} (h : TreeG (KB bx t) w0 w p t c0) (hb : Below w.heap.size w w') : TreeG (KB bx t) w0 w' p t c0 := by
  obtain ⟨ρ, P, gens, free, D, i, d, h1, h2, h3, h4, h5⟩ := h
  exact ⟨ρ, P, gens, free, D, i, d, h1, h2.below hb, h3.below h2 hb, h4, kb_ok bx t [] _ _ _ _ (by simp) (by simp) (RU.below h2.ro hb) h5⟩
theorem TreeG.all (h : TreeG (KB bx t) w0 w p t c0) : (∀ key, Calls Try.prog 14 #[.pointer (some ⟨t, 0, none⟩), .string key, .nilFunc] w fun e w' => e = .returned (.tuple #[.string s0, .bool false, .bool true]) ∧ Below w.heap.size w w') ∧
    (∀ key value, Calls Try.prog 25 #[.pointer (some ⟨t, 0, none⟩), .string key, .string value] w fun e w' => e = .returned (.tuple #[.string s0, .bool false, .int .i64 8]) ∧ Below w.heap.size w w') ∧
    (Calls Try.prog 31 #[.pointer (some ⟨p, 0, none⟩)] w fun e w' => e = .returned (.int .i64 c0) ∧ w = w') ∧
    (Calls Try.prog 19 #[.pointer (some ⟨t, 0, none⟩)] w fun e w' => e = .returned (.bool true) ∧ Below w.heap.size w w') ∧
    (Calls Try.prog 32 #[.pointer (some ⟨t, 0, none⟩)] w fun e w' => e = .returned (.tuple #[]) ∧ w = w') ∧ Below w0.heap.size w0 w := by
  obtain ⟨ρ, ⟨pa, g, f⟩, gens, free, D, i, d, ⟨h1, h1'⟩, h2, h3, h4, h5⟩ := h
  simp only at h1
  subst h1
  have hp := pFree_any pa g f gens free w h2.ars.pool.1
  rw [h4] at hp
  exact ⟨fun k => h3.get h2 k, fun k v => h3.put k v, hp, h3.check h2, h3.drop, h2.ro.bel⟩
end
def knK (k : Nat) : Str := ⟨#[UInt8.ofNat (99 + k)]⟩
/-- What the tree has ahead of Put number k of five. -/
def knC : Nat → Cont
  | 0 => [(⟨#[98]⟩, ⟨#[51]⟩)]
  | k + 1 => cput (knC k) (knK k) ⟨#[118]⟩
theorem knC_len : ∀ k, k ≤ 5 → (knC k).length = k + 1 := by decide
def KnI (w0 w : World) (p t bx k : Nat) : Prop := (k ≤ 4 ∧ TreeK (KB bx t) w0 w p t (knC k) 10 (max 1 ((k + 1) / 2)) true) ∨ (k = 5 ∧ TreeR (KB bx t) w0 w p t (knC 5) 10)
theorem KnI.cell {w0 w : World} {p t bx k : Nat} (h : KnI w0 w p t bx k) : w.cell? ⟨bx, 0, none⟩ = some (.pointer (some ⟨t, 0, none⟩)) ∧ bx < w.heap.size := by
  rcases h with ⟨_, h⟩ | ⟨_, h⟩
  · exact h.cell
  · exact h.cell
theorem KnI.put {w0 w W : World} {p t bx k : Nat} (h : KnI w0 w p t bx k) (hk : k < 5) (hb : Below w.heap.size w W) :
    Calls Try.prog 25 #[.pointer (some ⟨t, 0, none⟩), .string (knK k), .string ⟨#[118]⟩] W fun e w' => ∃ old had, e = .returned (.tuple #[.string old, .bool had, .int .i64 0]) ∧ KnI w0 w' p t bx (k + 1) := by
  rcases h with ⟨h1, h⟩ | ⟨rfl, _⟩
  · replace h := h.below (kb_ok bx t) hb
    have hl := knC_len k (by omega)
    have hl1 := knC_len (k + 1) (by omega)
    by_cases h4 : k = 4
    · subst h4
      refine (h.put5 (kb_ok bx t) hl _ _).mono ?_
      rintro e w' ⟨he, hT⟩
      exact ⟨_, _, he, .inr ⟨rfl, hT⟩⟩
    · refine (h.put (kb_ok bx t) (hh := 2) (by omega) (by omega) (by omega) (by omega) _ _).mono ?_
      rintro e w' ⟨he, hT⟩
      have hT' := hT.thin
      rw [show cput (knC k) (knK k) ⟨#[118]⟩ = knC (k + 1) from rfl, hl1] at hT'
      exact ⟨_, _, he, .inl ⟨by omega, hT'⟩⟩
  · omega
end Go.Proofs.Ytlhobbfncjjeaaa
namespace Go.Proofs.Ytlhobbfncjjeaaa
open Go.RowKit
set_option maxRecDepth 100000 in
set_option maxHeartbeats 8000000 in
theorem knownLaw_walk (w : World) : Calls Try.prog 7 #[] w fun e w' => e = .returned (.bool true) ∧ Below w.heap.size w w' := by
  have hmf : ∀ (fn : Fn) (first cap : Array Value) (w : World), (Instr.makeFunc fn first cap).run Try.prog w = .ok (.func fn first cap) w := fun _ _ _ _ => rfl
  have hHh := Lib.hid hands_ok
  go_enter Try.func7, Try.ntmps7
  go_wp2_with fail
  refine (show Calls Try.prog 10 #[.int .i64 10] w _ from arNewPool_some 10 w (by decide) (by decide)).mono ?_
  rintro e w1 ⟨p, g, f, rfl, hB1, hp1, hg1, hf1, hP1⟩
  have hNw := Lib.hid (TreeK.new (w0 := w) hB1 hP1 ⟨hp1, hg1, hf1⟩)
  clear hP1 hB1 hp1 hg1 hf1
  go_wp2_with fail
  refine hNw.out.mono ?_
  clear hNw
  rintro e w2 ⟨t, rfl, hT0⟩
  have hT := Lib.hid hT0.box
  obtain ⟨bx, hbx⟩ : ∃ bx, bx = w2.heap.size := ⟨_, rfl⟩
  rw [← hbx] at hT
  obtain ⟨wn, hW2⟩ : ∃ W2, W2 = w2.alloc (.cells #[.pointer (some ⟨t, 0, none⟩)] 31) := ⟨_, rfl⟩
  rw [← hW2] at hT
  obtain ⟨cb, hq⟩ := hT.out.cell
  clear hT0
  go_wp2_with fail
  rw [← hW2, ← hbx]
  clear hW2 hbx
  have hc := hT.out.put (kb_ok bx t) (hh := 2) (by omega) (by decide) (by omega) (by omega) ⟨#[98]⟩ ⟨#[49]⟩
  rw [show cget ([] : Cont) ⟨#[98]⟩ = (none : Option Str) from by decide, show cput ([] : Cont) ⟨#[98]⟩ ⟨#[49]⟩ = ([(⟨#[98]⟩, ⟨#[49]⟩)] : Cont) from by decide] at hc
  replace hc := Lib.hid hc
  refine hc.out.mono ?_
  clear hc hT cb hq
  rintro e wn ⟨rfl, hT'⟩
  have hT : Hid (TreeK (KB bx t) w wn p t ([(⟨#[98]⟩, ⟨#[49]⟩)] : Cont) 10 1 true) := Lib.hid hT'.thin
  obtain ⟨cb, hq⟩ := hT.out.cell
  clear hT'
  have hc := hT.out.put (kb_ok bx t) (hh := 2) (by omega) (by decide) (by omega) (by omega) ⟨#[97]⟩ ⟨#[50]⟩
  rw [show cget ([(⟨#[98]⟩, ⟨#[49]⟩)] : Cont) ⟨#[97]⟩ = (none : Option Str) from by decide, show cput ([(⟨#[98]⟩, ⟨#[49]⟩)] : Cont) ⟨#[97]⟩ ⟨#[50]⟩ = ([(⟨#[97]⟩, ⟨#[50]⟩), (⟨#[98]⟩, ⟨#[49]⟩)] : Cont) from by decide] at hc
  replace hc := Lib.hid hc
  go_wp2_with fail
  refine hc.out.mono ?_
  clear hc hT cb hq
  rintro e wn ⟨rfl, hT'⟩
  have hT : Hid (TreeK (KB bx t) w wn p t ([(⟨#[97]⟩, ⟨#[50]⟩), (⟨#[98]⟩, ⟨#[49]⟩)] : Cont) 10 1 true) := Lib.hid hT'.thin
  obtain ⟨cb, hq⟩ := hT.out.cell
  clear hT'
  have hc := hT.out.put (kb_ok bx t) (hh := 2) (by omega) (by decide) (by omega) (by omega) ⟨#[98]⟩ ⟨#[51]⟩
  rw [show cget ([(⟨#[97]⟩, ⟨#[50]⟩), (⟨#[98]⟩, ⟨#[49]⟩)] : Cont) ⟨#[98]⟩ = some ⟨#[49]⟩ from by decide, show cput ([(⟨#[97]⟩, ⟨#[50]⟩), (⟨#[98]⟩, ⟨#[49]⟩)] : Cont) ⟨#[98]⟩ ⟨#[51]⟩ = ([(⟨#[97]⟩, ⟨#[50]⟩), (⟨#[98]⟩, ⟨#[51]⟩)] : Cont) from by decide] at hc
  replace hc := Lib.hid hc
  go_wp2_with fail
  refine hc.out.mono ?_
  clear hc hT cb hq
  rintro e wn ⟨rfl, hT'⟩
  have hT : Hid (TreeK (KB bx t) w wn p t ([(⟨#[97]⟩, ⟨#[50]⟩), (⟨#[98]⟩, ⟨#[51]⟩)] : Cont) 10 1 true) := Lib.hid hT'.thin
  obtain ⟨cb, hq⟩ := hT.out.cell
  clear hT'
  have hc := hT.out.is.get ⟨#[98]⟩
  rw [show cget ([(⟨#[97]⟩, ⟨#[50]⟩), (⟨#[98]⟩, ⟨#[51]⟩)] : Cont) ⟨#[98]⟩ = some ⟨#[51]⟩ from by decide] at hc
  replace hc := Lib.hid hc
  go_wp2_with fail
  refine hc.out.mono ?_
  clear hc cb hq
  rintro e wn ⟨rfl, hb⟩
  have hT' := hT.out.below (kb_ok bx t) hb
  replace hT := Lib.hid hT'
  obtain ⟨cb, hq⟩ := hT.out.cell
  clear hT' hb
  have hc := hT.out.is.get ⟨#[99]⟩
  rw [show cget ([(⟨#[97]⟩, ⟨#[50]⟩), (⟨#[98]⟩, ⟨#[51]⟩)] : Cont) ⟨#[99]⟩ = (none : Option Str) from by decide] at hc
  replace hc := Lib.hid hc
  go_wp2_with fail
  refine hc.out.mono ?_
  clear hc cb hq
  rintro e wn ⟨rfl, hb⟩
  have hT' := hT.out.below (kb_ok bx t) hb
  replace hT := Lib.hid hT'
  obtain ⟨cb, hq⟩ := hT.out.cell
  clear hT' hb
  have hc : Calls Try.prog 24 #[.pointer (some ⟨t, 0, none⟩)] wn fun e w' => e = .returned (.int .i64 2) ∧ wn = w' := hT.out.is.len
  replace hc := Lib.hid hc
  go_wp2_with fail
  refine hc.out.mono ?_
  clear hc
  rintro e wn' ⟨rfl, rfl⟩
  have hc := Lib.hid hT.out.is.slots
  go_wp2_with fail
  refine hc.out.mono ?_
  clear hc cb hq
  rintro e wn ⟨n, rfl, hb, _, hn1, hn2, _, _⟩
  have hT' := hT.out.below (kb_ok bx t) hb
  replace hT := Lib.hid hT'
  obtain ⟨cb, hq⟩ := hT.out.cell
  clear hT' hb
  obtain rfl : n = 1 := by omega
  clear hn1 hn2
  have hc := hT.out.is.next ⟨#[97]⟩ false
  rw [show cnext ([(⟨#[97]⟩, ⟨#[50]⟩), (⟨#[98]⟩, ⟨#[51]⟩)] : Cont) ⟨#[97]⟩ false = some (⟨#[97]⟩, ⟨#[50]⟩) from by decide] at hc
  replace hc := Lib.hid hc
  have hc' : Calls Try.prog 17 #[.pointer (some ⟨t, 0, none⟩), .string ⟨#[97]⟩, .bool false, .nilFunc] wn fun e w' => e = .returned (.tuple #[.string ⟨#[97]⟩, .string ⟨#[50]⟩, .bool true, .bool false]) ∧ Below wn.heap.size wn w' := hc.out
  replace hc := Lib.hid hc'
  clear hc'
  go_wp2_with fail
  refine hc.out.mono ?_
  clear hc cb hq
  rintro e wn ⟨rfl, hb⟩
  have hT' := hT.out.below (kb_ok bx t) hb
  replace hT := Lib.hid hT'
  obtain ⟨cb, hq⟩ := hT.out.cell
  clear hT' hb
  have hc := hT.out.is.next ⟨#[97]⟩ true
  rw [show cnext ([(⟨#[97]⟩, ⟨#[50]⟩), (⟨#[98]⟩, ⟨#[51]⟩)] : Cont) ⟨#[97]⟩ true = some (⟨#[98]⟩, ⟨#[51]⟩) from by decide] at hc
  replace hc := Lib.hid hc
  have hc' : Calls Try.prog 17 #[.pointer (some ⟨t, 0, none⟩), .string ⟨#[97]⟩, .bool true, .nilFunc] wn fun e w' => e = .returned (.tuple #[.string ⟨#[98]⟩, .string ⟨#[51]⟩, .bool true, .bool false]) ∧ Below wn.heap.size wn w' := hc.out
  replace hc := Lib.hid hc'
  clear hc'
  go_wp2_with fail
  refine hc.out.mono ?_
  clear hc cb hq
  rintro e wn ⟨rfl, hb⟩
  have hT' := hT.out.below (kb_ok bx t) hb
  replace hT := Lib.hid hT'
  obtain ⟨cb, hq⟩ := hT.out.cell
  clear hT' hb
  have hc := hT.out.is.next ⟨#[98]⟩ true
  rw [show cnext ([(⟨#[97]⟩, ⟨#[50]⟩), (⟨#[98]⟩, ⟨#[51]⟩)] : Cont) ⟨#[98]⟩ true = (none : Option (Str × Str)) from by decide] at hc
  replace hc := Lib.hid hc
  have hc' : Calls Try.prog 17 #[.pointer (some ⟨t, 0, none⟩), .string ⟨#[98]⟩, .bool true, .nilFunc] wn fun e w' => e = .returned (.tuple #[.string ⟨#[]⟩, .string ⟨#[]⟩, .bool false, .bool false]) ∧ Below wn.heap.size wn w' := hc.out
  replace hc := Lib.hid hc'
  clear hc'
  go_wp2_with fail
  refine hc.out.mono ?_
  clear hc cb hq
  rintro e wn ⟨rfl, hb⟩
  have hT' := hT.out.below (kb_ok bx t) hb
  replace hT := Lib.hid hT'
  obtain ⟨cb, hq⟩ := hT.out.cell
  clear hT' hb
  have hc := hT.out.delete (kb_ok bx t) (by omega) (by decide) ⟨#[97]⟩
  rw [show cget ([(⟨#[97]⟩, ⟨#[50]⟩), (⟨#[98]⟩, ⟨#[51]⟩)] : Cont) ⟨#[97]⟩ = some ⟨#[50]⟩ from by decide, show cdel ([(⟨#[97]⟩, ⟨#[50]⟩), (⟨#[98]⟩, ⟨#[51]⟩)] : Cont) ⟨#[97]⟩ = ([(⟨#[98]⟩, ⟨#[51]⟩)] : Cont) from by decide] at hc
  replace hc := Lib.hid hc
  go_wp2_with fail
  refine hc.out.mono ?_
  clear hc hT cb hq
  rintro e wn ⟨rfl, hT'⟩
  have hT := Lib.hid hT'
  obtain ⟨cb, hq⟩ := hT.out.cell
  clear hT'
  have hc := hT.out.delete (kb_ok bx t) (by omega) (by decide) ⟨#[97]⟩
  rw [show cget ([(⟨#[98]⟩, ⟨#[51]⟩)] : Cont) ⟨#[97]⟩ = (none : Option Str) from by decide, show cdel ([(⟨#[98]⟩, ⟨#[51]⟩)] : Cont) ⟨#[97]⟩ = ([(⟨#[98]⟩, ⟨#[51]⟩)] : Cont) from by decide] at hc
  replace hc := Lib.hid hc
  go_wp2_with fail
  refine hc.out.mono ?_
  clear hc hT cb hq
  rintro e wn ⟨rfl, hT'⟩
  have hT := Lib.hid hT'
  obtain ⟨cb, hq⟩ := hT.out.cell
  clear hT'
  have hc := Lib.hid (hT.out.is.all (by decide))
  go_wp2_with fail
  refine hc.out.mono ?_
  clear hc cb hq
  rintro e wn ⟨aa, ac, he, _, hb⟩
  replace he : e = .returned (.slice aa 1 ac) := he
  subst he
  have hT' := (hT.out.below (kb_ok bx t) hb).one
  have hK : Hid (KnI w wn p t bx 0) := Lib.hid (.inl ⟨Nat.zero_le _, hT'⟩)
  obtain ⟨cb, hq⟩ := hT'.cell
  clear hT hb hT'
  go_wp2_with fail
  go_loopg [29] 5 (fun gk v wr => ∃ k : Nat, gk = 5 - k ∧ k ≤ 5 ∧ v = .int .i64 k ∧ KnI w wr p t bx k)
  case atStart => exact ⟨0, rfl, by omega, rfl, hK.out⟩
  case round =>
    clear hK cb hq
    obtain ⟨k, rfl, hk, rfl, hK⟩ := hrel
    obtain ⟨cb, hq⟩ := hK.cell
    by_cases hlt : k < 5
    · have hw1 : IntKind.i64.wrap (99 + (k : Int)) = 99 + (k : Int) := IntWalk.i64_in _ (by omega)
      have hw2 : IntKind.u8.wrap (99 + (k : Int)) = 99 + (k : Int) := by simp [IntKind.wrap, IntKind.bits, IntKind.signed]; omega
      have hcv : (convert 23 9 (.slice (some ⟨wr.heap.size, 0, none⟩) 1 1)).run Try.prog (wr.alloc (.cells #[.int .u8 (99 + (k : Int))] 5)) = .ok (.string (knK k)) (wr.alloc (.cells #[.int .u8 (99 + (k : Int))] 5)) := by
        refine run_convert_bytes_back (P := Try.prog) (wr.alloc (.cells #[.int .u8 (99 + (k : Int))] 5)) 23 9 5 ⟨wr.heap.size, 0, none⟩ 1 [UInt8.ofNat (99 + k)] Try.underlying23 Try.underlying5 Try.underlying9 (fun j hj => ?_)
        simp at hj
        subst hj
        show (wr.alloc _).cell? ⟨wr.heap.size, 0, none⟩ = _
        rw [cell_of_heap (heap_alloc_new _ _)]
        simp
        omega
      have hPu := Lib.hid (hK.put hlt ((Below.refl wr.heap.size wr).alloc (Nat.le_refl _) (.cells #[.int .u8 (99 + (k : Int))] 5)))
      replace hK := Lib.hid hK
      go_wp2_with fail
      refine hPu.out.mono ?_
      clear hPu hcv hK cb hq
      rintro z w4 ⟨old, had, rfl, hT4⟩
      replace hT4 := Lib.hid hT4
      go_wp2_with fail
      go_roundg (5 - (k + 1))
      case rel => exact ⟨k + 1, rfl, by omega, by go_num, hT4.out⟩
      case measure => omega
    · obtain rfl : k = 5 := by omega
      have hT : Hid (TreeR (KB bx t) w wr p t (knC 5) 10) := Lib.hid (by
        rcases hK with ⟨h, _⟩ | ⟨_, h⟩
        · omega
        · exact h)
      clear hK
      have hc := Lib.hid hT.out.slots
      go_wp2_with fail
      refine hc.out.mono ?_
      clear hc cb hq
      rintro e wn ⟨rfl, hb⟩
      replace hT := Lib.hid (hT.out.below hb)
      obtain ⟨cb, hq⟩ := hT.out.cell
      have hc := Lib.hid (hT.out.check (by decide))
      clear hb
      go_wp2_with fail
      refine hc.out.mono ?_
      clear hc cb hq
      rintro e wn ⟨rfl, hb⟩
      replace hT := Lib.hid (hT.out.below hb)
      obtain ⟨cb, hq⟩ := hT.out.cell
      have hc := Lib.hid (hT.out.late hHh.out ((Below.refl wn.heap.size wn).alloc (Nat.le_refl _) (.cells #[.int .i64 0] 3)) (Nat.le_refl _) (heap_alloc_new _ _) ⟨#[98]⟩)
      clear hb
      go_wp2_with fail
      refine hc.out.mono ?_
      clear hc cb hq hT
      rintro e wn ⟨rfl, hT'⟩
      have hT := Lib.hid hT'
      obtain ⟨cb, hq⟩ := hT.out.cell
      obtain ⟨a1, a2, a3, a4, a5, a6⟩ := hT.out.all
      have hc := Lib.hid (a1 ⟨#[98]⟩)
      clear hT' a1 a2 a3 a4 a5 a6
      go_wp2_with fail
      refine hc.out.mono ?_
      clear hc cb hq
      rintro e wn ⟨rfl, hb⟩
      replace hT := Lib.hid (hT.out.below hb)
      obtain ⟨cb, hq⟩ := hT.out.cell
      obtain ⟨a1, a2, a3, a4, a5, a6⟩ := hT.out.all
      have hc := Lib.hid (a2 ⟨#[98]⟩ ⟨#[49]⟩)
      clear hb a1 a2 a3 a4 a5 a6
      go_wp2_with fail
      refine hc.out.mono ?_
      clear hc cb hq
      rintro e wn ⟨rfl, hb⟩
      replace hT := Lib.hid (hT.out.below hb)
      obtain ⟨cb, hq⟩ := hT.out.cell
      obtain ⟨a1, a2, a3, a4, a5, a6⟩ := hT.out.all
      have hc := Lib.hid a3
      have hc4 := Lib.hid a4
      clear hb a1 a2 a3 a4 a5 a6
      go_wp2_with fail
      refine hc.out.mono ?_
      clear hc
      rintro e wn' ⟨rfl, rfl⟩
      go_wp2_with fail
      refine hc4.out.mono ?_
      clear hc4 cb hq
      rintro e wn ⟨rfl, hb⟩
      replace hT := Lib.hid (hT.out.below hb)
      obtain ⟨cb, hq⟩ := hT.out.cell
      obtain ⟨a1, a2, a3, a4, a5, a6⟩ := hT.out.all
      have hc := Lib.hid a5
      have hB := Lib.hid a6
      clear hb a1 a2 a3 a4 a5 a6
      go_wp2_with fail
      refine hc.out.mono ?_
      clear hc cb hq
      rintro e wn' ⟨rfl, rfl⟩
      go_wp2_with fail
      refine (drop_nil _).mono ?_
      rintro e wn' ⟨rfl, rfl⟩
      go_wp2_with fail
      refine (get_nil _ _).mono ?_
      rintro e wn' ⟨rfl, rfl⟩
      have hA : Below wn.heap.size wn (wn.alloc (.cells #[.pointer none, .pointer none, .int .i64 0, .int .u64 0, .int .i64 0, .bool false] 72)) := (Below.refl _ _).alloc (Nat.le_refl _) _
      have hz : (wn.alloc (.cells #[.pointer none, .pointer none, .int .i64 0, .int .u64 0, .int .i64 0, .bool false] 72)).cell? ⟨wn.heap.size, 1, none⟩ = some (.pointer none) := by rw [cell_of_heap (heap_alloc_new _ _)]; rfl
      have hc := Lib.hid (next_zero hz ⟨#[97]⟩ false)
      replace hB := Lib.hid (hB.out.trans (hA.mono hB.out.size))
      clear hA hz hT
      go_wp2_with fail
      refine hc.out.mono ?_
      clear hc
      generalize wn.alloc (.cells #[.pointer none, .pointer none, .int .i64 0, .int .u64 0, .int .i64 0, .bool false] 72) = wm at *
      rintro e wn' ⟨rfl, rfl⟩
      go_wp2_with fail
      refine (put_nil _ _ _).mono ?_
      rintro e wn' ⟨rfl, rfl⟩
      have hA : Below wm.heap.size wm (wm.alloc (.cells #[.pointer none, .pointer none, .int .i64 0, .int .u64 0, .int .i64 0, .bool false] 72)) := (Below.refl _ _).alloc (Nat.le_refl _) _
      have hz : (wm.alloc (.cells #[.pointer none, .pointer none, .int .i64 0, .int .u64 0, .int .i64 0, .bool false] 72)).cell? ⟨wm.heap.size, 1, none⟩ = some (.pointer none) := by rw [cell_of_heap (heap_alloc_new _ _)]; rfl
      have hc := Lib.hid (del_zero hz ⟨#[97]⟩)
      replace hB := Lib.hid (hB.out.trans (hA.mono hB.out.size))
      clear hA hz
      go_wp2_with fail
      refine hc.out.mono ?_
      clear hc
      generalize wm.alloc (.cells #[.pointer none, .pointer none, .int .i64 0, .int .u64 0, .int .i64 0, .bool false] 72) = wz at *
      rintro e wn' ⟨rfl, rfl⟩
      go_wp2_with fail
      refine (awake10_any _).mono ?_
      rintro e wy ⟨rfl, hb⟩
      replace hB := Lib.hid (hB.out.trans (hb.mono hB.out.size))
      clear hb
      go_wp2_with fail
      refine (len_nil _).mono ?_
      rintro e wn' ⟨rfl, rfl⟩
      go_wp2_with fail
      refine (slots_nil _).mono ?_
      rintro e wn' ⟨rfl, rfl⟩
      go_wp2_with fail
      refine (all_nil _).mono ?_
      rintro e wn' ⟨rfl, rfl⟩
      go_wp2_with fail
      refine (check_nil _).mono ?_
      rintro e wn' ⟨rfl, rfl⟩
      go_wp2_with fail
      go_ret
      exact ⟨by simp, hB.out⟩
end Go.Proofs.Ytlhobbfncjjeaaa
