/- The contract of a B-link tree's split. -/
import Derived.Test.YtlhobbfncjjeaaaBkSplit3
import Derived.Test.YtlhobbfncjjeaaaHeldG
namespace Go.Proofs.Ytlhobbfncjjeaaa
open Go.RowKit
section
variable {w0 w w1 w2 : World} {ρ : Nat → Nat} {P : Nat × Nat × Nat} {gens : List Int} {free : List Bool} {D : List ArD} {rs : List Nat} {rt i t : Nat} {d : ArD} {Ls : List Lev} {F F' : List (Hd × BN)} {r : Hd} {size : Nat}
set_option maxRecDepth 100000 in
set_option maxHeartbeats 20000000 in
theorem TF.split (hB : BW w0 w ρ P gens free D) (h : TF w ρ P D rt i t d F r size) {X Y : List (Hd × BN)} {hh : Hd} {m : BN} (hF : F = X ++ (hh, m) :: Y) (hsp : ∀ nx W qka qva qha qkc qvc qhc, NodeAt W m qka qva qha qkc qvc qhc → Calls Try.prog 74 #[.agg #[.bool m.leaf, .slice qka m.keys.length qkc, .slice qva m.vals.length qvc, .slice qha m.kids.length qhc, .string m.high, .bool m.bnd, .int .i64 m.next.1, .int .u64 m.next.2], .agg #[.int .i64 nx.1, .int .u64 nx.2]] W (SEnd m nx W)) (hfr : true ∈ free)
    {a : Option Addr} {N c : Nat} {hp : Hd} {n : BN} {W1 W2 : List (Hd × BN)} (hcase : (N = 0 ∧ true ∈ free.set (free.idxOf true) false) ∨ (0 < N ∧ N ≤ 1000 ∧ X ++ Y = W1 ++ (hp, n) :: W2 ∧ (∃ b o, a = some ⟨b, o, none⟩ ∧ ρ b = 0 ∧ w.cell? ⟨b, o + (N - 1) * 2, none⟩ = some (.int .i64 hp.1) ∧ w.cell? ⟨b, o + (N - 1) * 2 + 1, none⟩ = some (.int .u64 hp.2)) ∧
      ∀ nx W qka qva qha qkc qvc qhc, NodeAt W n qka qva qha qkc qvc qhc → Calls Try.prog 75 #[.agg #[.bool n.leaf, .slice qka n.keys.length qkc, .slice qva n.vals.length qvc, .slice qha n.kids.length qhc, .string n.high, .bool n.bnd, .int .i64 n.next.1, .int .u64 n.next.2], .string m.sep, .agg #[.int .i64 nx.1, .int .u64 nx.2]] W (AEnd (n.add m.sep nx) W))) :
    Calls Try.prog 57 #[.pointer (some ⟨t, 0, none⟩), .slice a N c, .agg #[.int .i64 hh.1, .int .u64 hh.2]] w fun x w' => x = .returned (.tuple #[]) ∧ SpEnd w0 w ρ P gens free D rt i t d.A.a hh m (X ++ Y) (W1 ++ W2) hp n r size N w' := by
  obtain ⟨c0, c1, c2, c3, c4, c5, hq⟩ := h.cells
  obtain ⟨e, he, e1, e2, hE, hcel, hG⟩ := h.entry hB (x := (hh, m)) (by rw [hF]; simp)
  replace hG := Lib.hid hG
  replace hsp := Lib.hid hsp
  obtain ⟨sl, hsl⟩ : ∃ sl : Nat, sl = free.idxOf true := ⟨_, rfl⟩
  obtain ⟨gn, hgn⟩ : ∃ gn : Int, gn = gens.getD sl 0 := ⟨_, rfl⟩
  replace hgn := Lib.hid hgn
  have hfr' := hfr
  have hbx0 : (w.alloc (.cells #[.int .i64 hh.1, .int .u64 hh.2] 70)).heap[w.heap.size]? = some (.cells #[.int .i64 hh.1, .int .u64 hh.2] 70) := heap_alloc_new _ _
  have hb0 : Below w.heap.size w (w.alloc (.cells #[.int .i64 hh.1, .int .u64 hh.2] 70)) := (Below.refl _ _).alloc (Nat.le_refl _) _
  have hz0 : (w.alloc (.cells #[.int .i64 hh.1, .int .u64 hh.2] 70)).heap.size = w.heap.size + 1 := by simp
  have hbke := heap_lt hcel
  have hBh := Lib.hid (And.intro hB h)
  clear hB h hcel hE
  go_enter Try.func57, Try.ntmps57
  go_wp2_with fail
  generalize w.alloc (.cells #[.int .i64 hh.1, .int .u64 hh.2] 70) = W0 at *
  have k1 := keep hb0 c1
  have bx0 : W0.cell? ⟨w.heap.size, 0, none⟩ = some (.int .i64 hh.1) := by rw [cell_of_heap hbx0]; rfl
  have bx1 : W0.cell? ⟨w.heap.size, 1, none⟩ = some (.int .u64 hh.2) := by rw [cell_of_heap hbx0]; rfl
  go_cut [6] (fun v wx => v = .pointer (some ⟨e.blk, 1, none⟩) ∧ Below W0.heap.size W0 wx)
  case first =>
    go_region_with (go_at_call 52; refine (hG.out _ hb0.drew).mono ?_; rintro z1 w2 ⟨rfl, hb2⟩; have hbw := ((Below.refl W0.heap.size W0).drew).trans hb2; replace hbw := Lib.hid hbw; clear hb2)
    all_goals
      go_wp2_with fail
      go_meet
      exact ⟨rfl, hbw.out⟩
  case rest =>
    obtain ⟨rfl, hbw⟩ := hcut
    have hbc := hb0.trans (hbw.mono hb0.size)
    have hbx1 := Below.heap' hbw hbx0
    have hTc := hBh.out.2.ru (RU.below (rs := []) hBh.out.1.ro hbc) (by simp) (by simp)
    have hAl := TF.alloc (hBh.out.1.below hbc) hTc zeroBN none none none 0 0 0 (zero_at _) ⟨fun hn => absurd rfl hn, fun hn => absurd rfl hn, fun hn => absurd rfl hn⟩ hfr
    rw [← hsl, ← hgn.out] at hAl
    replace hAl := Lib.hid hAl
    replace hsl := Lib.hid hsl
    clear k1
    have k1 := keep hbc c1
    clear bx0 bx1 hbx0 hTc c0 c2 c3 c4 c5 hG hb0 hbw
    replace hbc := Lib.hid hbc
    go_wp2_with fail
    refine hAl.out.mono ?_
    clear hAl
    rintro z w2 ⟨rfl, ρ1, D1, d1, hB1, hT1, hU1, hda, hsz, hL1, _, hsd1⟩
    have hbx2 := hU1.heap hbx1 (by rw [hBh.out.1.ro.far _ (Nat.le_refl _)]; simp; omega)
    have hU2 := ((RU.below (rs := []) hBh.out.1.ro hbc.out).mono (rs' := [1, 2, 3, 12 + 3 * i]) (by simp)).trans hU1
    obtain ⟨hE2, hcel2⟩ := hT1.at hB1 (x := (hh, m)) (by rw [hF]; simp) (hL1 e he) e1
    obtain ⟨qka, qva, qha, qkc, qvc, qhc, exs, hnat, fr1, fr2, fr3⟩ := hE2
    rw [exs] at hcel2
    clear hU1 hbx1 k1 hbc hz0
    have k1 : w2.cell? ⟨t, 1, none⟩ = some (.pointer (some ⟨d.A.a, 0, none⟩)) := by rw [← hda]; exact hT1.cells.2.1
    have hBT1 := Lib.hid (And.intro hB1 hT1)
    have hq2 : t < w2.heap.size := hT1.cells.2.2.2.2.2.2
    clear hB1 hT1
    replace hnat := Lib.hid hnat
    go_wp2_with fail
    have hbx3 : (w2.alloc (.cells #[.int .i64 sl, .int .u64 gn] 70)).heap[w2.heap.size]? = some (.cells #[.int .i64 sl, .int .u64 gn] 70) := heap_alloc_new _ _
    have hb3 : Below w2.heap.size w2 (w2.alloc (.cells #[.int .i64 sl, .int .u64 gn] 70)) := (Below.refl _ _).alloc (Nat.le_refl _) _
    have hz3 : (w2.alloc (.cells #[.int .i64 sl, .int .u64 gn] 70)).heap.size = w2.heap.size + 1 := by simp
    generalize w2.alloc (.cells #[.int .i64 sl, .int .u64 gn] 70) = W3 at *
    obtain ⟨x1, x2, x3, x4, x5, x6, x7, x8⟩ := node_cells1 m qka qva qha qkc qvc qhc (Below.heap' hb3 hcel2)
    have y1 : W3.cell? ⟨w2.heap.size, 0, none⟩ = some (.int .i64 sl) := by rw [cell_of_heap hbx3]; rfl
    have y2 : W3.cell? ⟨w2.heap.size, 1, none⟩ = some (.int .u64 gn) := by rw [cell_of_heap hbx3]; rfl
    have hSp := Lib.hid fun W (hW : Below w2.heap.size w2 W) => hsp.out ((sl : Int), gn) W qka qva qha qkc qvc qhc (hnat.out.below m qka qva qha qkc qvc qhc hW)
    clear hsp
    have hbk2 := heap_lt hcel2
    replace hF := Lib.hid hF
    replace exs := Lib.hid exs
    replace e1 := Lib.hid e1
    replace e2 := Lib.hid e2
    replace hda := Lib.hid hda
    replace hcel2 := Lib.hid hcel2
    replace hbx2 := Lib.hid hbx2
    replace hbx3 := Lib.hid hbx3
    replace hz3 := Lib.hid hz3
    have hK3 := Lib.hid fun W (hW : Below W3.heap.size W3 W) => And.intro (keep hW x1) (And.intro (keep hW x2) (And.intro (keep hW x3) (And.intro (keep hW x4) (And.intro (keep hW x5) (And.intro (keep hW x6) (And.intro (keep hW x7) (And.intro (keep hW x8) (And.intro (keep hW y1) (keep hW y2)))))))))
    go_cut [10, 11, 12] (fun v10 v11 v12 wx => ∃ b10 b11 qka2 qva2 qha2 qkc2 qvc2 qhc2 qka3 qva3 qha3 qkc3 qvc3 qhc3 n2 n3, Hid (n2 = m.left ((sl : Int), gn)) ∧ Hid (n3 = m.rightHalf) ∧ v10 = .pointer (some ⟨b10, 0, none⟩) ∧ v11 = .pointer (some ⟨b11, 0, none⟩) ∧ v12 = .string m.sep ∧
      wx.heap[b10]? = some (.cells #[.bool n2.leaf, .slice qka2 n2.keys.length qkc2, .slice qva2 n2.vals.length qvc2, .slice qha2 n2.kids.length qhc2, .string n2.high, .bool n2.bnd, .int .i64 n2.next.1, .int .u64 n2.next.2] 89) ∧ wx.heap[b11]? = some (.cells #[.bool n3.leaf, .slice qka3 n3.keys.length qkc3, .slice qva3 n3.vals.length qvc3, .slice qha3 n3.kids.length qhc3, .string n3.high, .bool n3.bnd, .int .i64 n3.next.1, .int .u64 n3.next.2] 89) ∧ NodeAt wx n2 qka2 qva2 qha2 qkc2 qvc2 qhc2 ∧ NodeAt wx n3 qka3 qva3 qha3 qkc3 qvc3 qhc3 ∧ FreshN W3.heap.size qka2 qva2 qha2 ∧ FreshN W3.heap.size qka3 qva3 qha3 ∧ Below W3.heap.size W3 wx ∧ Hid (W3.heap.size ≤ b10 ∧ W3.heap.size ≤ b11))
    case first =>
      clear hBh hBT1 hF exs e1 e2 hda hcel2 hbx2 hbx3 hU2 hnat fr1 fr2 fr3 hcase hL1 x1 x2 x3 x4 x5 x6 x7 x8 y1 y2
      refine wp_region_held_drew (S := fun w' => Below W3.heap.size W3 w') rfl ?_ (fun hHeld => ?_)
      · exact (Below.refl _ _).drew
      refine takeL 0 (by simp only [List.getElem?_toArray, List.getElem?_cons_zero]; rfl) hHeld ?_
      refine ⟨by kernel_rfl, by kernel_rfl, by kernel_rfl, ?_, fun _ _ _ h => h, Or.inl ⟨by rfl, ?_⟩, ?_⟩
      rotate_left 1
      · intro w hSw; (try dsimp only at hSw); go_simp; first | done | with_reducible rfl
      try simp only [Act.put, List.setIfInBounds_toArray, List.set_cons_zero, List.set_cons_succ]
      refine takeL 1 (by simp only [List.getElem?_toArray, List.getElem?_cons_succ, List.getElem?_cons_zero]; rfl) hHeld ?_
      refine ⟨by kernel_rfl, by kernel_rfl, by kernel_rfl, ?_, fun _ _ _ h => h, Or.inl ⟨by rfl, ?_⟩, ?_⟩
      rotate_left 1
      · intro w hSw; (try dsimp only at hSw); go_simp; first | done | with_reducible rfl
      try simp only [Act.put, List.setIfInBounds_toArray, List.set_cons_zero, List.set_cons_succ]
      refine takeL 2 (by simp only [List.getElem?_toArray, List.getElem?_cons_succ, List.getElem?_cons_zero]; rfl) hHeld ?_
      refine ⟨by kernel_rfl, by kernel_rfl, by kernel_rfl, ?_, fun _ _ _ h => h, Or.inl ⟨by rfl, ?_⟩, ?_⟩
      rotate_left 1
      · intro w hSw; (try dsimp only at hSw); obtain ⟨i1, i2, i3, i4, i5, i6, i7, i8, i9, i10⟩ := hK3.out _ hSw; go_simp; first | done | with_reducible rfl
      try simp only [Act.put, List.setIfInBounds_toArray, List.set_cons_zero, List.set_cons_succ]
      refine takeL 3 (by simp only [List.getElem?_toArray, List.getElem?_cons_succ, List.getElem?_cons_zero]; rfl) hHeld ?_
      refine ⟨by kernel_rfl, by kernel_rfl, by kernel_rfl, ?_, fun _ _ _ h => h, Or.inl ⟨by rfl, ?_⟩, ?_⟩
      rotate_left 1
      · intro w hSw; (try dsimp only at hSw); obtain ⟨i1, i2, i3, i4, i5, i6, i7, i8, i9, i10⟩ := hK3.out _ hSw; go_simp; first | done | with_reducible rfl
      try simp only [Act.put, List.setIfInBounds_toArray, List.set_cons_zero, List.set_cons_succ]
      generalize W3.drew = Wa at *
      refine wpAnyH_ready (rs := [4, 9, 10]) (by kernel_rfl) (by simp) ?_
      refine (AllReadyH.cons rfl (fun K hK => ?_) (AllReadyH.cons rfl (fun K hK => ?_) (AllReadyH.cons rfl (fun K hK => ?_) AllReadyH.nil)))
      · go_simp
        go_at_call 74
        refine (hSp.out _ (hb3.trans (hHeld.mono hb3.size))).mono ?_
        rintro z1 Wb ⟨qka2, qva2, qha2, qkc2, qvc2, qhc2, qka3, qva3, qha3, qkc3, qvc3, qhc3, n2, n3, hn2, hn3, rfl, hat2, hat3, hfr2, hfr3, hb4⟩
        have hsn := Lib.hid (And.intro hn2 (And.intro hn3 (And.intro (hfr2.mono hHeld.size) (hfr3.mono hHeld.size))))
        clear hn2 hn3 hfr2 hfr3
        replace hat2 := Lib.hid hat2
        replace hat3 := Lib.hid hat3
        have hS1 := hHeld.trans (hb4.mono hHeld.size)
        clear hb4
        go_wp2_with fail
        refine hK.out _ _ hS1 (fun _ => ?_)
        clear hHeld hK K
        have hHeld := hS1
        clear hS1
        try simp only [Act.put, List.setIfInBounds_toArray, List.set_cons_zero, List.set_cons_succ]
        refine takeL 5 (by simp only [List.getElem?_toArray, List.getElem?_cons_succ, List.getElem?_cons_zero]; rfl) hHeld ?_
        refine ⟨by kernel_rfl, by kernel_rfl, by kernel_rfl, ?_, fun _ _ _ h => h, Or.inl ⟨by rfl, ?_⟩, ?_⟩
        rotate_left 1
        · intro w hSw; (try dsimp only at hSw); go_simp; first | done | with_reducible rfl
        try simp only [Act.put, List.setIfInBounds_toArray, List.set_cons_zero, List.set_cons_succ]
        refine takeL 6 (by simp only [List.getElem?_toArray, List.getElem?_cons_succ, List.getElem?_cons_zero]; rfl) hHeld ?_
        refine ⟨by kernel_rfl, by kernel_rfl, by kernel_rfl, ?_, fun _ _ _ h => h, Or.inl ⟨by rfl, ?_⟩, ?_⟩
        rotate_left 1
        · intro w hSw; (try dsimp only at hSw); go_simp; first | done | with_reducible rfl
        try simp only [Act.put, List.setIfInBounds_toArray, List.set_cons_zero, List.set_cons_succ]
        refine takeL 7 (by simp only [List.getElem?_toArray, List.getElem?_cons_succ, List.getElem?_cons_zero]; rfl) hHeld ?_
        refine ⟨by kernel_rfl, by kernel_rfl, by kernel_rfl, ?_, fun _ _ _ h => h, Or.inl ⟨by rfl, ?_⟩, ?_⟩
        rotate_left 1
        · intro w hSw; (try dsimp only at hSw); go_simp; first | done | with_reducible rfl
        try simp only [Act.put, List.setIfInBounds_toArray, List.set_cons_zero, List.set_cons_succ]
        refine takeL 8 (by simp only [List.getElem?_toArray, List.getElem?_cons_succ, List.getElem?_cons_zero]; rfl) hHeld ?_
        refine ⟨by kernel_rfl, by kernel_rfl, by kernel_rfl, ?_, fun _ _ _ h => h, Or.inl ⟨by rfl, ?_⟩, ?_⟩
        rotate_left 1
        · intro w hSw; (try dsimp only at hSw); go_simp; first | done | with_reducible rfl
        try simp only [Act.put, List.setIfInBounds_toArray, List.set_cons_zero, List.set_cons_succ]
        refine wpAnyH_ready (rs := [9, 10]) (by kernel_rfl) (by simp) ?_
        refine (AllReadyH.cons rfl (fun K hK => ?_) (AllReadyH.cons rfl (fun K hK => ?_) AllReadyH.nil))
        · go_simp
          have hS1 := hHeld.alloc hHeld.size (.cells #[.bool false, .slice none 0 0, .slice none 0 0, .slice none 0 0, .string ⟨#[]⟩, .bool false, .int .i64 0, .int .u64 0] 89)
          have g10 := Lib.hid (heap_alloc_new Wb (.cells #[.bool false, .slice none 0 0, .slice none 0 0, .slice none 0 0, .string ⟨#[]⟩, .bool false, .int .i64 0, .int .u64 0] 89))
          have l10 := hHeld.size
          have hb4 : Below Wb.heap.size Wb (Wb.alloc (.cells #[.bool false, .slice none 0 0, .slice none 0 0, .slice none 0 0, .string ⟨#[]⟩, .bool false, .int .i64 0, .int .u64 0] 89)) := (Below.refl _ _).alloc (Nat.le_refl _) _
          have off10 := off_behind n2 qka2 qva2 qha2 qkc2 qvc2 qhc2 n3 qka3 qva3 qha3 qkc3 qvc3 qhc3 hat2.out hat3.out hsn.out.2.2.1 hsn.out.2.2.2
          replace hat2 := Lib.hid (hat2.out.below _ _ _ _ _ _ _ hb4)
          replace hat3 := Lib.hid (hat3.out.below _ _ _ _ _ _ _ hb4)
          clear hb4
          generalize Wb.alloc (.cells #[.bool false, .slice none 0 0, .slice none 0 0, .slice none 0 0, .string ⟨#[]⟩, .bool false, .int .i64 0, .int .u64 0] 89) = Wc at *
          generalize Wb.heap.size = b10 at *
          refine hK.out _ _ hS1 (fun _ => ?_)
          clear hHeld hK K
          have hHeld := hS1
          clear hS1
          try simp only [Act.put, List.setIfInBounds_toArray, List.set_cons_zero, List.set_cons_succ]
          refine wpAnyH_ready (rs := [10]) (by kernel_rfl) (by simp) ?_
          refine (AllReadyH.cons rfl (fun K hK => ?_) AllReadyH.nil)
          go_simp
          have hS1 := hHeld.alloc hHeld.size (.cells #[.bool false, .slice none 0 0, .slice none 0 0, .slice none 0 0, .string ⟨#[]⟩, .bool false, .int .i64 0, .int .u64 0] 89)
          have g11 := Lib.hid (heap_alloc_new Wc (.cells #[.bool false, .slice none 0 0, .slice none 0 0, .slice none 0 0, .string ⟨#[]⟩, .bool false, .int .i64 0, .int .u64 0] 89))
          have l11 := hHeld.size
          have hb4 : Below Wc.heap.size Wc (Wc.alloc (.cells #[.bool false, .slice none 0 0, .slice none 0 0, .slice none 0 0, .string ⟨#[]⟩, .bool false, .int .i64 0, .int .u64 0] 89)) := (Below.refl _ _).alloc (Nat.le_refl _) _
          have off11 := off_behind n2 qka2 qva2 qha2 qkc2 qvc2 qhc2 n3 qka3 qva3 qha3 qkc3 qvc3 qhc3 hat2.out hat3.out hsn.out.2.2.1 hsn.out.2.2.2
          replace hat2 := Lib.hid (hat2.out.below _ _ _ _ _ _ _ hb4)
          replace hat3 := Lib.hid (hat3.out.below _ _ _ _ _ _ _ hb4)
          have ne := Nat.ne_of_lt (heap_lt g10.out)
          have hlt10 := heap_lt g10.out
          replace g10 := Lib.hid (Below.heap' hb4 g10.out)
          clear hlt10
          clear hb4
          generalize Wc.alloc (.cells #[.bool false, .slice none 0 0, .slice none 0 0, .slice none 0 0, .string ⟨#[]⟩, .bool false, .int .i64 0, .int .u64 0] 89) = Wd at *
          generalize Wc.heap.size = b11 at *
          refine hK.out _ _ hS1 (fun _ => ?_)
          clear hHeld hK K
          have hHeld := hS1
          clear hS1
          try simp only [Act.put, List.setIfInBounds_toArray, List.set_cons_zero, List.set_cons_succ]
          have ne10 := ne
          have ne11 := Ne.symm ne
          clear ne
          refine readyL 11 (by kernel_rfl) (by simp only [List.getElem?_toArray, List.getElem?_cons_succ, List.getElem?_cons_zero]; rfl) ?_
          intro K hK
          obtain ⟨⟨pc0, pc1, pc2, pc3, pc4, pc5, pc6, pc7⟩, pf0, pf1, pf2, pf3, pf4, pf5, pf6, pf7⟩ := zero_box g10.out
          have g10s := heap_lt g10.out
          go_simp
          go_wp2_with fail
          obtain ⟨hst, hup⟩ := node_stored (n2 := n2) (qka2 := qka2) (qva2 := qva2) (qha2 := qha2) (qkc2 := qkc2) (qvc2 := qvc2) (qhc2 := qhc2) g10.out
          have hS1 := hHeld.trans (hup.below hHeld.size (by simpa using l10))
          replace g11 := Lib.hid (hup.heap g11.out (by simpa using ne11))
          replace hat2 := Lib.hid (hat2.out.updB _ _ _ _ _ _ _ hup (fun b hb => by simpa using off10.1 b hb))
          replace hat3 := Lib.hid (hat3.out.updB _ _ _ _ _ _ _ hup (fun b hb => by simpa using off10.2 b hb))
          replace hst := Lib.hid hst
          clear hup pc0 pc1 pc2 pc3 pc4 pc5 pc6 pc7 pf0 pf1 pf2 pf3 pf4 pf5 pf6 pf7 g10s
          refine hK.out _ _ hS1 (fun _ => ?_)
          generalize (World.setCell (World.setCell (World.setCell (World.setCell (World.setCell (World.setCell (World.setCell (World.setCell Wd ⟨b10, 0, none⟩ (.bool n2.leaf)) ⟨b10, 1, none⟩ (.slice qka2 n2.keys.length qkc2)) ⟨b10, 2, none⟩ (.slice qva2 n2.vals.length qvc2)) ⟨b10, 3, none⟩ (.slice qha2 n2.kids.length qhc2)) ⟨b10, 4, none⟩ (.string n2.high)) ⟨b10, 5, none⟩ (.bool n2.bnd)) ⟨b10, 6, none⟩ (.int .i64 n2.next.1)) ⟨b10, 7, none⟩ (.int .u64 n2.next.2)) = W11 at *
          clear hHeld hK K g10
          have hHeld := hS1
          clear hS1
          have g10 := hst
          clear hst
          try simp only [Act.put, List.setIfInBounds_toArray, List.set_cons_zero, List.set_cons_succ]
          refine readyL 12 (by kernel_rfl) (by simp only [List.getElem?_toArray, List.getElem?_cons_succ, List.getElem?_cons_zero]; rfl) ?_
          intro K hK
          obtain ⟨⟨pc0, pc1, pc2, pc3, pc4, pc5, pc6, pc7⟩, pf0, pf1, pf2, pf3, pf4, pf5, pf6, pf7⟩ := zero_box g11.out
          have g10s := heap_lt g11.out
          go_simp
          go_wp2_with fail
          obtain ⟨hst, hup⟩ := node_stored (n2 := n3) (qka2 := qka3) (qva2 := qva3) (qha2 := qha3) (qkc2 := qkc3) (qvc2 := qvc3) (qhc2 := qhc3) g11.out
          have hS1 := hHeld.trans (hup.below hHeld.size (by simpa using l11))
          replace g10 := Lib.hid (hup.heap g10.out (by simpa using ne10))
          replace hat2 := Lib.hid (hat2.out.updB _ _ _ _ _ _ _ hup (fun b hb => by simpa using off11.1 b hb))
          replace hat3 := Lib.hid (hat3.out.updB _ _ _ _ _ _ _ hup (fun b hb => by simpa using off11.2 b hb))
          replace hst := Lib.hid hst
          clear hup pc0 pc1 pc2 pc3 pc4 pc5 pc6 pc7 pf0 pf1 pf2 pf3 pf4 pf5 pf6 pf7 g10s
          refine hK.out _ _ hS1 (fun _ => ?_)
          generalize (World.setCell (World.setCell (World.setCell (World.setCell (World.setCell (World.setCell (World.setCell (World.setCell W11 ⟨b11, 0, none⟩ (.bool n3.leaf)) ⟨b11, 1, none⟩ (.slice qka3 n3.keys.length qkc3)) ⟨b11, 2, none⟩ (.slice qva3 n3.vals.length qvc3)) ⟨b11, 3, none⟩ (.slice qha3 n3.kids.length qhc3)) ⟨b11, 4, none⟩ (.string n3.high)) ⟨b11, 5, none⟩ (.bool n3.bnd)) ⟨b11, 6, none⟩ (.int .i64 n3.next.1)) ⟨b11, 7, none⟩ (.int .u64 n3.next.2)) = W12 at *
          clear hHeld hK K g11
          have hHeld := hS1
          clear hS1
          have g11 := hst
          clear hst
          try simp only [Act.put, List.setIfInBounds_toArray, List.set_cons_zero, List.set_cons_succ]
          refine readyL 13 (by kernel_rfl) (by simp only [List.getElem?_toArray, List.getElem?_cons_succ, List.getElem?_cons_zero]; rfl) ?_
          intro K hK
          go_simp
          refine hK.out _ _ hHeld (fun _ => ?_)
          clear hK K
          try simp only [Act.put, List.setIfInBounds_toArray, List.set_cons_zero, List.set_cons_succ]
          refine wpAnyH_done (by kernel_rfl) ?_ _
          go_wp2_with fail
          go_meet
          exact ⟨b10, b11, qka2, qva2, qha2, qkc2, qvc2, qhc2, qka3, qva3, qha3, qkc3, qvc3, qhc3, n2, n3, Lib.hid hsn.out.1, Lib.hid hsn.out.2.1, rfl, rfl, rfl, g10.out, g11.out, hat2.out, hat3.out, hsn.out.2.2.1, hsn.out.2.2.2, hHeld, Lib.hid ⟨l10, l11⟩⟩
        · go_simp
          have hS1 := hHeld.alloc hHeld.size (.cells #[.bool false, .slice none 0 0, .slice none 0 0, .slice none 0 0, .string ⟨#[]⟩, .bool false, .int .i64 0, .int .u64 0] 89)
          have g11 := Lib.hid (heap_alloc_new Wb (.cells #[.bool false, .slice none 0 0, .slice none 0 0, .slice none 0 0, .string ⟨#[]⟩, .bool false, .int .i64 0, .int .u64 0] 89))
          have l11 := hHeld.size
          have hb4 : Below Wb.heap.size Wb (Wb.alloc (.cells #[.bool false, .slice none 0 0, .slice none 0 0, .slice none 0 0, .string ⟨#[]⟩, .bool false, .int .i64 0, .int .u64 0] 89)) := (Below.refl _ _).alloc (Nat.le_refl _) _
          have off11 := off_behind n2 qka2 qva2 qha2 qkc2 qvc2 qhc2 n3 qka3 qva3 qha3 qkc3 qvc3 qhc3 hat2.out hat3.out hsn.out.2.2.1 hsn.out.2.2.2
          replace hat2 := Lib.hid (hat2.out.below _ _ _ _ _ _ _ hb4)
          replace hat3 := Lib.hid (hat3.out.below _ _ _ _ _ _ _ hb4)
          clear hb4
          generalize Wb.alloc (.cells #[.bool false, .slice none 0 0, .slice none 0 0, .slice none 0 0, .string ⟨#[]⟩, .bool false, .int .i64 0, .int .u64 0] 89) = Wc at *
          generalize Wb.heap.size = b11 at *
          refine hK.out _ _ hS1 (fun _ => ?_)
          clear hHeld hK K
          have hHeld := hS1
          clear hS1
          try simp only [Act.put, List.setIfInBounds_toArray, List.set_cons_zero, List.set_cons_succ]
          refine wpAnyH_ready (rs := [9]) (by kernel_rfl) (by simp) ?_
          refine (AllReadyH.cons rfl (fun K hK => ?_) AllReadyH.nil)
          go_simp
          have hS1 := hHeld.alloc hHeld.size (.cells #[.bool false, .slice none 0 0, .slice none 0 0, .slice none 0 0, .string ⟨#[]⟩, .bool false, .int .i64 0, .int .u64 0] 89)
          have g10 := Lib.hid (heap_alloc_new Wc (.cells #[.bool false, .slice none 0 0, .slice none 0 0, .slice none 0 0, .string ⟨#[]⟩, .bool false, .int .i64 0, .int .u64 0] 89))
          have l10 := hHeld.size
          have hb4 : Below Wc.heap.size Wc (Wc.alloc (.cells #[.bool false, .slice none 0 0, .slice none 0 0, .slice none 0 0, .string ⟨#[]⟩, .bool false, .int .i64 0, .int .u64 0] 89)) := (Below.refl _ _).alloc (Nat.le_refl _) _
          have off10 := off_behind n2 qka2 qva2 qha2 qkc2 qvc2 qhc2 n3 qka3 qva3 qha3 qkc3 qvc3 qhc3 hat2.out hat3.out hsn.out.2.2.1 hsn.out.2.2.2
          replace hat2 := Lib.hid (hat2.out.below _ _ _ _ _ _ _ hb4)
          replace hat3 := Lib.hid (hat3.out.below _ _ _ _ _ _ _ hb4)
          have ne := Nat.ne_of_lt (heap_lt g11.out)
          have hlt11 := heap_lt g11.out
          replace g11 := Lib.hid (Below.heap' hb4 g11.out)
          clear hlt11
          clear hb4
          generalize Wc.alloc (.cells #[.bool false, .slice none 0 0, .slice none 0 0, .slice none 0 0, .string ⟨#[]⟩, .bool false, .int .i64 0, .int .u64 0] 89) = Wd at *
          generalize Wc.heap.size = b10 at *
          refine hK.out _ _ hS1 (fun _ => ?_)
          clear hHeld hK K
          have hHeld := hS1
          clear hS1
          try simp only [Act.put, List.setIfInBounds_toArray, List.set_cons_zero, List.set_cons_succ]
          have ne11 := ne
          have ne10 := Ne.symm ne
          clear ne
          refine readyL 11 (by kernel_rfl) (by simp only [List.getElem?_toArray, List.getElem?_cons_succ, List.getElem?_cons_zero]; rfl) ?_
          intro K hK
          obtain ⟨⟨pc0, pc1, pc2, pc3, pc4, pc5, pc6, pc7⟩, pf0, pf1, pf2, pf3, pf4, pf5, pf6, pf7⟩ := zero_box g10.out
          have g10s := heap_lt g10.out
          go_simp
          go_wp2_with fail
          obtain ⟨hst, hup⟩ := node_stored (n2 := n2) (qka2 := qka2) (qva2 := qva2) (qha2 := qha2) (qkc2 := qkc2) (qvc2 := qvc2) (qhc2 := qhc2) g10.out
          have hS1 := hHeld.trans (hup.below hHeld.size (by simpa using l10))
          replace g11 := Lib.hid (hup.heap g11.out (by simpa using ne11))
          replace hat2 := Lib.hid (hat2.out.updB _ _ _ _ _ _ _ hup (fun b hb => by simpa using off10.1 b hb))
          replace hat3 := Lib.hid (hat3.out.updB _ _ _ _ _ _ _ hup (fun b hb => by simpa using off10.2 b hb))
          replace hst := Lib.hid hst
          clear hup pc0 pc1 pc2 pc3 pc4 pc5 pc6 pc7 pf0 pf1 pf2 pf3 pf4 pf5 pf6 pf7 g10s
          refine hK.out _ _ hS1 (fun _ => ?_)
          generalize (World.setCell (World.setCell (World.setCell (World.setCell (World.setCell (World.setCell (World.setCell (World.setCell Wd ⟨b10, 0, none⟩ (.bool n2.leaf)) ⟨b10, 1, none⟩ (.slice qka2 n2.keys.length qkc2)) ⟨b10, 2, none⟩ (.slice qva2 n2.vals.length qvc2)) ⟨b10, 3, none⟩ (.slice qha2 n2.kids.length qhc2)) ⟨b10, 4, none⟩ (.string n2.high)) ⟨b10, 5, none⟩ (.bool n2.bnd)) ⟨b10, 6, none⟩ (.int .i64 n2.next.1)) ⟨b10, 7, none⟩ (.int .u64 n2.next.2)) = W11 at *
          clear hHeld hK K g10
          have hHeld := hS1
          clear hS1
          have g10 := hst
          clear hst
          try simp only [Act.put, List.setIfInBounds_toArray, List.set_cons_zero, List.set_cons_succ]
          refine readyL 12 (by kernel_rfl) (by simp only [List.getElem?_toArray, List.getElem?_cons_succ, List.getElem?_cons_zero]; rfl) ?_
          intro K hK
          obtain ⟨⟨pc0, pc1, pc2, pc3, pc4, pc5, pc6, pc7⟩, pf0, pf1, pf2, pf3, pf4, pf5, pf6, pf7⟩ := zero_box g11.out
          have g10s := heap_lt g11.out
          go_simp
          go_wp2_with fail
          obtain ⟨hst, hup⟩ := node_stored (n2 := n3) (qka2 := qka3) (qva2 := qva3) (qha2 := qha3) (qkc2 := qkc3) (qvc2 := qvc3) (qhc2 := qhc3) g11.out
          have hS1 := hHeld.trans (hup.below hHeld.size (by simpa using l11))
          replace g10 := Lib.hid (hup.heap g10.out (by simpa using ne10))
          replace hat2 := Lib.hid (hat2.out.updB _ _ _ _ _ _ _ hup (fun b hb => by simpa using off11.1 b hb))
          replace hat3 := Lib.hid (hat3.out.updB _ _ _ _ _ _ _ hup (fun b hb => by simpa using off11.2 b hb))
          replace hst := Lib.hid hst
          clear hup pc0 pc1 pc2 pc3 pc4 pc5 pc6 pc7 pf0 pf1 pf2 pf3 pf4 pf5 pf6 pf7 g10s
          refine hK.out _ _ hS1 (fun _ => ?_)
          generalize (World.setCell (World.setCell (World.setCell (World.setCell (World.setCell (World.setCell (World.setCell (World.setCell W11 ⟨b11, 0, none⟩ (.bool n3.leaf)) ⟨b11, 1, none⟩ (.slice qka3 n3.keys.length qkc3)) ⟨b11, 2, none⟩ (.slice qva3 n3.vals.length qvc3)) ⟨b11, 3, none⟩ (.slice qha3 n3.kids.length qhc3)) ⟨b11, 4, none⟩ (.string n3.high)) ⟨b11, 5, none⟩ (.bool n3.bnd)) ⟨b11, 6, none⟩ (.int .i64 n3.next.1)) ⟨b11, 7, none⟩ (.int .u64 n3.next.2)) = W12 at *
          clear hHeld hK K g11
          have hHeld := hS1
          clear hS1
          have g11 := hst
          clear hst
          try simp only [Act.put, List.setIfInBounds_toArray, List.set_cons_zero, List.set_cons_succ]
          refine readyL 13 (by kernel_rfl) (by simp only [List.getElem?_toArray, List.getElem?_cons_succ, List.getElem?_cons_zero]; rfl) ?_
          intro K hK
          go_simp
          refine hK.out _ _ hHeld (fun _ => ?_)
          clear hK K
          try simp only [Act.put, List.setIfInBounds_toArray, List.set_cons_zero, List.set_cons_succ]
          refine wpAnyH_done (by kernel_rfl) ?_ _
          go_wp2_with fail
          go_meet
          exact ⟨b10, b11, qka2, qva2, qha2, qkc2, qvc2, qhc2, qka3, qva3, qha3, qkc3, qvc3, qhc3, n2, n3, Lib.hid hsn.out.1, Lib.hid hsn.out.2.1, rfl, rfl, rfl, g10.out, g11.out, hat2.out, hat3.out, hsn.out.2.2.1, hsn.out.2.2.2, hHeld, Lib.hid ⟨l10, l11⟩⟩
      · go_simp
        have hS1 := hHeld.alloc hHeld.size (.cells #[.bool false, .slice none 0 0, .slice none 0 0, .slice none 0 0, .string ⟨#[]⟩, .bool false, .int .i64 0, .int .u64 0] 89)
        have g10 := Lib.hid (heap_alloc_new Wa (.cells #[.bool false, .slice none 0 0, .slice none 0 0, .slice none 0 0, .string ⟨#[]⟩, .bool false, .int .i64 0, .int .u64 0] 89))
        have l10 := hHeld.size
        have hb4 : Below Wa.heap.size Wa (Wa.alloc (.cells #[.bool false, .slice none 0 0, .slice none 0 0, .slice none 0 0, .string ⟨#[]⟩, .bool false, .int .i64 0, .int .u64 0] 89)) := (Below.refl _ _).alloc (Nat.le_refl _) _
        clear hb4
        generalize Wa.alloc (.cells #[.bool false, .slice none 0 0, .slice none 0 0, .slice none 0 0, .string ⟨#[]⟩, .bool false, .int .i64 0, .int .u64 0] 89) = Wb at *
        generalize Wa.heap.size = b10 at *
        refine hK.out _ _ hS1 (fun _ => ?_)
        clear hHeld hK K
        have hHeld := hS1
        clear hS1
        try simp only [Act.put, List.setIfInBounds_toArray, List.set_cons_zero, List.set_cons_succ]
        refine wpAnyH_ready (rs := [4, 10]) (by kernel_rfl) (by simp) ?_
        refine (AllReadyH.cons rfl (fun K hK => ?_) (AllReadyH.cons rfl (fun K hK => ?_) AllReadyH.nil))
        · go_simp
          go_at_call 74
          refine (hSp.out _ (hb3.trans (hHeld.mono hb3.size))).mono ?_
          rintro z1 Wc ⟨qka2, qva2, qha2, qkc2, qvc2, qhc2, qka3, qva3, qha3, qkc3, qvc3, qhc3, n2, n3, hn2, hn3, rfl, hat2, hat3, hfr2, hfr3, hb4⟩
          have hsn := Lib.hid (And.intro hn2 (And.intro hn3 (And.intro (hfr2.mono hHeld.size) (hfr3.mono hHeld.size))))
          have off10 := off_before n2 qka2 qva2 qha2 qkc2 qvc2 qhc2 n3 qka3 qva3 qha3 qkc3 qvc3 qhc3 hat2 hat3 hfr2 hfr3 (heap_lt g10.out)
          clear hn2 hn3 hfr2 hfr3
          replace hat2 := Lib.hid hat2
          replace hat3 := Lib.hid hat3
          have hS1 := hHeld.trans (hb4.mono hHeld.size)
          replace g10 := Lib.hid (Below.heap' hb4 g10.out)
          clear hb4
          go_wp2_with fail
          refine hK.out _ _ hS1 (fun _ => ?_)
          clear hHeld hK K
          have hHeld := hS1
          clear hS1
          try simp only [Act.put, List.setIfInBounds_toArray, List.set_cons_zero, List.set_cons_succ]
          refine takeL 5 (by simp only [List.getElem?_toArray, List.getElem?_cons_succ, List.getElem?_cons_zero]; rfl) hHeld ?_
          refine ⟨by kernel_rfl, by kernel_rfl, by kernel_rfl, ?_, fun _ _ _ h => h, Or.inl ⟨by rfl, ?_⟩, ?_⟩
          rotate_left 1
          · intro w hSw; (try dsimp only at hSw); go_simp; first | done | with_reducible rfl
          try simp only [Act.put, List.setIfInBounds_toArray, List.set_cons_zero, List.set_cons_succ]
          refine takeL 6 (by simp only [List.getElem?_toArray, List.getElem?_cons_succ, List.getElem?_cons_zero]; rfl) hHeld ?_
          refine ⟨by kernel_rfl, by kernel_rfl, by kernel_rfl, ?_, fun _ _ _ h => h, Or.inl ⟨by rfl, ?_⟩, ?_⟩
          rotate_left 1
          · intro w hSw; (try dsimp only at hSw); go_simp; first | done | with_reducible rfl
          try simp only [Act.put, List.setIfInBounds_toArray, List.set_cons_zero, List.set_cons_succ]
          refine takeL 7 (by simp only [List.getElem?_toArray, List.getElem?_cons_succ, List.getElem?_cons_zero]; rfl) hHeld ?_
          refine ⟨by kernel_rfl, by kernel_rfl, by kernel_rfl, ?_, fun _ _ _ h => h, Or.inl ⟨by rfl, ?_⟩, ?_⟩
          rotate_left 1
          · intro w hSw; (try dsimp only at hSw); go_simp; first | done | with_reducible rfl
          try simp only [Act.put, List.setIfInBounds_toArray, List.set_cons_zero, List.set_cons_succ]
          refine takeL 8 (by simp only [List.getElem?_toArray, List.getElem?_cons_succ, List.getElem?_cons_zero]; rfl) hHeld ?_
          refine ⟨by kernel_rfl, by kernel_rfl, by kernel_rfl, ?_, fun _ _ _ h => h, Or.inl ⟨by rfl, ?_⟩, ?_⟩
          rotate_left 1
          · intro w hSw; (try dsimp only at hSw); go_simp; first | done | with_reducible rfl
          try simp only [Act.put, List.setIfInBounds_toArray, List.set_cons_zero, List.set_cons_succ]
          refine wpAnyH_ready (rs := [10]) (by kernel_rfl) (by simp) ?_
          refine (AllReadyH.cons rfl (fun K hK => ?_) AllReadyH.nil)
          go_simp
          have hS1 := hHeld.alloc hHeld.size (.cells #[.bool false, .slice none 0 0, .slice none 0 0, .slice none 0 0, .string ⟨#[]⟩, .bool false, .int .i64 0, .int .u64 0] 89)
          have g11 := Lib.hid (heap_alloc_new Wc (.cells #[.bool false, .slice none 0 0, .slice none 0 0, .slice none 0 0, .string ⟨#[]⟩, .bool false, .int .i64 0, .int .u64 0] 89))
          have l11 := hHeld.size
          have hb4 : Below Wc.heap.size Wc (Wc.alloc (.cells #[.bool false, .slice none 0 0, .slice none 0 0, .slice none 0 0, .string ⟨#[]⟩, .bool false, .int .i64 0, .int .u64 0] 89)) := (Below.refl _ _).alloc (Nat.le_refl _) _
          have ne := Nat.ne_of_lt (heap_lt g10.out)
          have hlt10 := heap_lt g10.out
          replace g10 := Lib.hid (Below.heap' hb4 g10.out)
          clear hlt10
          have off11 := off_behind n2 qka2 qva2 qha2 qkc2 qvc2 qhc2 n3 qka3 qva3 qha3 qkc3 qvc3 qhc3 hat2.out hat3.out hsn.out.2.2.1 hsn.out.2.2.2
          replace hat2 := Lib.hid (hat2.out.below _ _ _ _ _ _ _ hb4)
          replace hat3 := Lib.hid (hat3.out.below _ _ _ _ _ _ _ hb4)
          clear hb4
          generalize Wc.alloc (.cells #[.bool false, .slice none 0 0, .slice none 0 0, .slice none 0 0, .string ⟨#[]⟩, .bool false, .int .i64 0, .int .u64 0] 89) = Wd at *
          generalize Wc.heap.size = b11 at *
          refine hK.out _ _ hS1 (fun _ => ?_)
          clear hHeld hK K
          have hHeld := hS1
          clear hS1
          try simp only [Act.put, List.setIfInBounds_toArray, List.set_cons_zero, List.set_cons_succ]
          have ne10 := ne
          have ne11 := Ne.symm ne
          clear ne
          refine readyL 11 (by kernel_rfl) (by simp only [List.getElem?_toArray, List.getElem?_cons_succ, List.getElem?_cons_zero]; rfl) ?_
          intro K hK
          obtain ⟨⟨pc0, pc1, pc2, pc3, pc4, pc5, pc6, pc7⟩, pf0, pf1, pf2, pf3, pf4, pf5, pf6, pf7⟩ := zero_box g10.out
          have g10s := heap_lt g10.out
          go_simp
          go_wp2_with fail
          obtain ⟨hst, hup⟩ := node_stored (n2 := n2) (qka2 := qka2) (qva2 := qva2) (qha2 := qha2) (qkc2 := qkc2) (qvc2 := qvc2) (qhc2 := qhc2) g10.out
          have hS1 := hHeld.trans (hup.below hHeld.size (by simpa using l10))
          replace g11 := Lib.hid (hup.heap g11.out (by simpa using ne11))
          replace hat2 := Lib.hid (hat2.out.updB _ _ _ _ _ _ _ hup (fun b hb => by simpa using off10.1 b hb))
          replace hat3 := Lib.hid (hat3.out.updB _ _ _ _ _ _ _ hup (fun b hb => by simpa using off10.2 b hb))
          replace hst := Lib.hid hst
          clear hup pc0 pc1 pc2 pc3 pc4 pc5 pc6 pc7 pf0 pf1 pf2 pf3 pf4 pf5 pf6 pf7 g10s
          refine hK.out _ _ hS1 (fun _ => ?_)
          generalize (World.setCell (World.setCell (World.setCell (World.setCell (World.setCell (World.setCell (World.setCell (World.setCell Wd ⟨b10, 0, none⟩ (.bool n2.leaf)) ⟨b10, 1, none⟩ (.slice qka2 n2.keys.length qkc2)) ⟨b10, 2, none⟩ (.slice qva2 n2.vals.length qvc2)) ⟨b10, 3, none⟩ (.slice qha2 n2.kids.length qhc2)) ⟨b10, 4, none⟩ (.string n2.high)) ⟨b10, 5, none⟩ (.bool n2.bnd)) ⟨b10, 6, none⟩ (.int .i64 n2.next.1)) ⟨b10, 7, none⟩ (.int .u64 n2.next.2)) = W11 at *
          clear hHeld hK K g10
          have hHeld := hS1
          clear hS1
          have g10 := hst
          clear hst
          try simp only [Act.put, List.setIfInBounds_toArray, List.set_cons_zero, List.set_cons_succ]
          refine readyL 12 (by kernel_rfl) (by simp only [List.getElem?_toArray, List.getElem?_cons_succ, List.getElem?_cons_zero]; rfl) ?_
          intro K hK
          obtain ⟨⟨pc0, pc1, pc2, pc3, pc4, pc5, pc6, pc7⟩, pf0, pf1, pf2, pf3, pf4, pf5, pf6, pf7⟩ := zero_box g11.out
          have g10s := heap_lt g11.out
          go_simp
          go_wp2_with fail
          obtain ⟨hst, hup⟩ := node_stored (n2 := n3) (qka2 := qka3) (qva2 := qva3) (qha2 := qha3) (qkc2 := qkc3) (qvc2 := qvc3) (qhc2 := qhc3) g11.out
          have hS1 := hHeld.trans (hup.below hHeld.size (by simpa using l11))
          replace g10 := Lib.hid (hup.heap g10.out (by simpa using ne10))
          replace hat2 := Lib.hid (hat2.out.updB _ _ _ _ _ _ _ hup (fun b hb => by simpa using off11.1 b hb))
          replace hat3 := Lib.hid (hat3.out.updB _ _ _ _ _ _ _ hup (fun b hb => by simpa using off11.2 b hb))
          replace hst := Lib.hid hst
          clear hup pc0 pc1 pc2 pc3 pc4 pc5 pc6 pc7 pf0 pf1 pf2 pf3 pf4 pf5 pf6 pf7 g10s
          refine hK.out _ _ hS1 (fun _ => ?_)
          generalize (World.setCell (World.setCell (World.setCell (World.setCell (World.setCell (World.setCell (World.setCell (World.setCell W11 ⟨b11, 0, none⟩ (.bool n3.leaf)) ⟨b11, 1, none⟩ (.slice qka3 n3.keys.length qkc3)) ⟨b11, 2, none⟩ (.slice qva3 n3.vals.length qvc3)) ⟨b11, 3, none⟩ (.slice qha3 n3.kids.length qhc3)) ⟨b11, 4, none⟩ (.string n3.high)) ⟨b11, 5, none⟩ (.bool n3.bnd)) ⟨b11, 6, none⟩ (.int .i64 n3.next.1)) ⟨b11, 7, none⟩ (.int .u64 n3.next.2)) = W12 at *
          clear hHeld hK K g11
          have hHeld := hS1
          clear hS1
          have g11 := hst
          clear hst
          try simp only [Act.put, List.setIfInBounds_toArray, List.set_cons_zero, List.set_cons_succ]
          refine readyL 13 (by kernel_rfl) (by simp only [List.getElem?_toArray, List.getElem?_cons_succ, List.getElem?_cons_zero]; rfl) ?_
          intro K hK
          go_simp
          refine hK.out _ _ hHeld (fun _ => ?_)
          clear hK K
          try simp only [Act.put, List.setIfInBounds_toArray, List.set_cons_zero, List.set_cons_succ]
          refine wpAnyH_done (by kernel_rfl) ?_ _
          go_wp2_with fail
          go_meet
          exact ⟨b10, b11, qka2, qva2, qha2, qkc2, qvc2, qhc2, qka3, qva3, qha3, qkc3, qvc3, qhc3, n2, n3, Lib.hid hsn.out.1, Lib.hid hsn.out.2.1, rfl, rfl, rfl, g10.out, g11.out, hat2.out, hat3.out, hsn.out.2.2.1, hsn.out.2.2.2, hHeld, Lib.hid ⟨l10, l11⟩⟩
        · go_simp
          have hS1 := hHeld.alloc hHeld.size (.cells #[.bool false, .slice none 0 0, .slice none 0 0, .slice none 0 0, .string ⟨#[]⟩, .bool false, .int .i64 0, .int .u64 0] 89)
          have g11 := Lib.hid (heap_alloc_new Wb (.cells #[.bool false, .slice none 0 0, .slice none 0 0, .slice none 0 0, .string ⟨#[]⟩, .bool false, .int .i64 0, .int .u64 0] 89))
          have l11 := hHeld.size
          have hb4 : Below Wb.heap.size Wb (Wb.alloc (.cells #[.bool false, .slice none 0 0, .slice none 0 0, .slice none 0 0, .string ⟨#[]⟩, .bool false, .int .i64 0, .int .u64 0] 89)) := (Below.refl _ _).alloc (Nat.le_refl _) _
          have ne := Nat.ne_of_lt (heap_lt g10.out)
          have hlt10 := heap_lt g10.out
          replace g10 := Lib.hid (Below.heap' hb4 g10.out)
          clear hlt10
          clear hb4
          generalize Wb.alloc (.cells #[.bool false, .slice none 0 0, .slice none 0 0, .slice none 0 0, .string ⟨#[]⟩, .bool false, .int .i64 0, .int .u64 0] 89) = Wc at *
          generalize Wb.heap.size = b11 at *
          refine hK.out _ _ hS1 (fun _ => ?_)
          clear hHeld hK K
          have hHeld := hS1
          clear hS1
          try simp only [Act.put, List.setIfInBounds_toArray, List.set_cons_zero, List.set_cons_succ]
          refine wpAnyH_ready (rs := [4]) (by kernel_rfl) (by simp) ?_
          refine (AllReadyH.cons rfl (fun K hK => ?_) AllReadyH.nil)
          go_simp
          go_at_call 74
          refine (hSp.out _ (hb3.trans (hHeld.mono hb3.size))).mono ?_
          rintro z1 Wd ⟨qka2, qva2, qha2, qkc2, qvc2, qhc2, qka3, qva3, qha3, qkc3, qvc3, qhc3, n2, n3, hn2, hn3, rfl, hat2, hat3, hfr2, hfr3, hb4⟩
          have hsn := Lib.hid (And.intro hn2 (And.intro hn3 (And.intro (hfr2.mono hHeld.size) (hfr3.mono hHeld.size))))
          have off10 := off_before n2 qka2 qva2 qha2 qkc2 qvc2 qhc2 n3 qka3 qva3 qha3 qkc3 qvc3 qhc3 hat2 hat3 hfr2 hfr3 (heap_lt g10.out)
          have off11 := off_before n2 qka2 qva2 qha2 qkc2 qvc2 qhc2 n3 qka3 qva3 qha3 qkc3 qvc3 qhc3 hat2 hat3 hfr2 hfr3 (heap_lt g11.out)
          clear hn2 hn3 hfr2 hfr3
          replace hat2 := Lib.hid hat2
          replace hat3 := Lib.hid hat3
          have hS1 := hHeld.trans (hb4.mono hHeld.size)
          replace g10 := Lib.hid (Below.heap' hb4 g10.out)
          replace g11 := Lib.hid (Below.heap' hb4 g11.out)
          clear hb4
          go_wp2_with fail
          refine hK.out _ _ hS1 (fun _ => ?_)
          clear hHeld hK K
          have hHeld := hS1
          clear hS1
          try simp only [Act.put, List.setIfInBounds_toArray, List.set_cons_zero, List.set_cons_succ]
          refine takeL 5 (by simp only [List.getElem?_toArray, List.getElem?_cons_succ, List.getElem?_cons_zero]; rfl) hHeld ?_
          refine ⟨by kernel_rfl, by kernel_rfl, by kernel_rfl, ?_, fun _ _ _ h => h, Or.inl ⟨by rfl, ?_⟩, ?_⟩
          rotate_left 1
          · intro w hSw; (try dsimp only at hSw); go_simp; first | done | with_reducible rfl
          try simp only [Act.put, List.setIfInBounds_toArray, List.set_cons_zero, List.set_cons_succ]
          refine takeL 6 (by simp only [List.getElem?_toArray, List.getElem?_cons_succ, List.getElem?_cons_zero]; rfl) hHeld ?_
          refine ⟨by kernel_rfl, by kernel_rfl, by kernel_rfl, ?_, fun _ _ _ h => h, Or.inl ⟨by rfl, ?_⟩, ?_⟩
          rotate_left 1
          · intro w hSw; (try dsimp only at hSw); go_simp; first | done | with_reducible rfl
          try simp only [Act.put, List.setIfInBounds_toArray, List.set_cons_zero, List.set_cons_succ]
          refine takeL 7 (by simp only [List.getElem?_toArray, List.getElem?_cons_succ, List.getElem?_cons_zero]; rfl) hHeld ?_
          refine ⟨by kernel_rfl, by kernel_rfl, by kernel_rfl, ?_, fun _ _ _ h => h, Or.inl ⟨by rfl, ?_⟩, ?_⟩
          rotate_left 1
          · intro w hSw; (try dsimp only at hSw); go_simp; first | done | with_reducible rfl
          try simp only [Act.put, List.setIfInBounds_toArray, List.set_cons_zero, List.set_cons_succ]
          refine takeL 8 (by simp only [List.getElem?_toArray, List.getElem?_cons_succ, List.getElem?_cons_zero]; rfl) hHeld ?_
          refine ⟨by kernel_rfl, by kernel_rfl, by kernel_rfl, ?_, fun _ _ _ h => h, Or.inl ⟨by rfl, ?_⟩, ?_⟩
          rotate_left 1
          · intro w hSw; (try dsimp only at hSw); go_simp; first | done | with_reducible rfl
          try simp only [Act.put, List.setIfInBounds_toArray, List.set_cons_zero, List.set_cons_succ]
          have ne10 := ne
          have ne11 := Ne.symm ne
          clear ne
          refine readyL 11 (by kernel_rfl) (by simp only [List.getElem?_toArray, List.getElem?_cons_succ, List.getElem?_cons_zero]; rfl) ?_
          intro K hK
          obtain ⟨⟨pc0, pc1, pc2, pc3, pc4, pc5, pc6, pc7⟩, pf0, pf1, pf2, pf3, pf4, pf5, pf6, pf7⟩ := zero_box g10.out
          have g10s := heap_lt g10.out
          go_simp
          go_wp2_with fail
          obtain ⟨hst, hup⟩ := node_stored (n2 := n2) (qka2 := qka2) (qva2 := qva2) (qha2 := qha2) (qkc2 := qkc2) (qvc2 := qvc2) (qhc2 := qhc2) g10.out
          have hS1 := hHeld.trans (hup.below hHeld.size (by simpa using l10))
          replace g11 := Lib.hid (hup.heap g11.out (by simpa using ne11))
          replace hat2 := Lib.hid (hat2.out.updB _ _ _ _ _ _ _ hup (fun b hb => by simpa using off10.1 b hb))
          replace hat3 := Lib.hid (hat3.out.updB _ _ _ _ _ _ _ hup (fun b hb => by simpa using off10.2 b hb))
          replace hst := Lib.hid hst
          clear hup pc0 pc1 pc2 pc3 pc4 pc5 pc6 pc7 pf0 pf1 pf2 pf3 pf4 pf5 pf6 pf7 g10s
          refine hK.out _ _ hS1 (fun _ => ?_)
          generalize (World.setCell (World.setCell (World.setCell (World.setCell (World.setCell (World.setCell (World.setCell (World.setCell Wd ⟨b10, 0, none⟩ (.bool n2.leaf)) ⟨b10, 1, none⟩ (.slice qka2 n2.keys.length qkc2)) ⟨b10, 2, none⟩ (.slice qva2 n2.vals.length qvc2)) ⟨b10, 3, none⟩ (.slice qha2 n2.kids.length qhc2)) ⟨b10, 4, none⟩ (.string n2.high)) ⟨b10, 5, none⟩ (.bool n2.bnd)) ⟨b10, 6, none⟩ (.int .i64 n2.next.1)) ⟨b10, 7, none⟩ (.int .u64 n2.next.2)) = W11 at *
          clear hHeld hK K g10
          have hHeld := hS1
          clear hS1
          have g10 := hst
          clear hst
          try simp only [Act.put, List.setIfInBounds_toArray, List.set_cons_zero, List.set_cons_succ]
          refine readyL 12 (by kernel_rfl) (by simp only [List.getElem?_toArray, List.getElem?_cons_succ, List.getElem?_cons_zero]; rfl) ?_
          intro K hK
          obtain ⟨⟨pc0, pc1, pc2, pc3, pc4, pc5, pc6, pc7⟩, pf0, pf1, pf2, pf3, pf4, pf5, pf6, pf7⟩ := zero_box g11.out
          have g10s := heap_lt g11.out
          go_simp
          go_wp2_with fail
          obtain ⟨hst, hup⟩ := node_stored (n2 := n3) (qka2 := qka3) (qva2 := qva3) (qha2 := qha3) (qkc2 := qkc3) (qvc2 := qvc3) (qhc2 := qhc3) g11.out
          have hS1 := hHeld.trans (hup.below hHeld.size (by simpa using l11))
          replace g10 := Lib.hid (hup.heap g10.out (by simpa using ne10))
          replace hat2 := Lib.hid (hat2.out.updB _ _ _ _ _ _ _ hup (fun b hb => by simpa using off11.1 b hb))
          replace hat3 := Lib.hid (hat3.out.updB _ _ _ _ _ _ _ hup (fun b hb => by simpa using off11.2 b hb))
          replace hst := Lib.hid hst
          clear hup pc0 pc1 pc2 pc3 pc4 pc5 pc6 pc7 pf0 pf1 pf2 pf3 pf4 pf5 pf6 pf7 g10s
          refine hK.out _ _ hS1 (fun _ => ?_)
          generalize (World.setCell (World.setCell (World.setCell (World.setCell (World.setCell (World.setCell (World.setCell (World.setCell W11 ⟨b11, 0, none⟩ (.bool n3.leaf)) ⟨b11, 1, none⟩ (.slice qka3 n3.keys.length qkc3)) ⟨b11, 2, none⟩ (.slice qva3 n3.vals.length qvc3)) ⟨b11, 3, none⟩ (.slice qha3 n3.kids.length qhc3)) ⟨b11, 4, none⟩ (.string n3.high)) ⟨b11, 5, none⟩ (.bool n3.bnd)) ⟨b11, 6, none⟩ (.int .i64 n3.next.1)) ⟨b11, 7, none⟩ (.int .u64 n3.next.2)) = W12 at *
          clear hHeld hK K g11
          have hHeld := hS1
          clear hS1
          have g11 := hst
          clear hst
          try simp only [Act.put, List.setIfInBounds_toArray, List.set_cons_zero, List.set_cons_succ]
          refine readyL 13 (by kernel_rfl) (by simp only [List.getElem?_toArray, List.getElem?_cons_succ, List.getElem?_cons_zero]; rfl) ?_
          intro K hK
          go_simp
          refine hK.out _ _ hHeld (fun _ => ?_)
          clear hK K
          try simp only [Act.put, List.setIfInBounds_toArray, List.set_cons_zero, List.set_cons_succ]
          refine wpAnyH_done (by kernel_rfl) ?_ _
          go_wp2_with fail
          go_meet
          exact ⟨b10, b11, qka2, qva2, qha2, qkc2, qvc2, qhc2, qka3, qva3, qha3, qkc3, qvc3, qhc3, n2, n3, Lib.hid hsn.out.1, Lib.hid hsn.out.2.1, rfl, rfl, rfl, g10.out, g11.out, hat2.out, hat3.out, hsn.out.2.2.1, hsn.out.2.2.2, hHeld, Lib.hid ⟨l10, l11⟩⟩
      · go_simp
        have hS1 := hHeld.alloc hHeld.size (.cells #[.bool false, .slice none 0 0, .slice none 0 0, .slice none 0 0, .string ⟨#[]⟩, .bool false, .int .i64 0, .int .u64 0] 89)
        have g11 := Lib.hid (heap_alloc_new Wa (.cells #[.bool false, .slice none 0 0, .slice none 0 0, .slice none 0 0, .string ⟨#[]⟩, .bool false, .int .i64 0, .int .u64 0] 89))
        have l11 := hHeld.size
        have hb4 : Below Wa.heap.size Wa (Wa.alloc (.cells #[.bool false, .slice none 0 0, .slice none 0 0, .slice none 0 0, .string ⟨#[]⟩, .bool false, .int .i64 0, .int .u64 0] 89)) := (Below.refl _ _).alloc (Nat.le_refl _) _
        clear hb4
        generalize Wa.alloc (.cells #[.bool false, .slice none 0 0, .slice none 0 0, .slice none 0 0, .string ⟨#[]⟩, .bool false, .int .i64 0, .int .u64 0] 89) = Wb at *
        generalize Wa.heap.size = b11 at *
        refine hK.out _ _ hS1 (fun _ => ?_)
        clear hHeld hK K
        have hHeld := hS1
        clear hS1
        try simp only [Act.put, List.setIfInBounds_toArray, List.set_cons_zero, List.set_cons_succ]
        refine wpAnyH_ready (rs := [4, 9]) (by kernel_rfl) (by simp) ?_
        refine (AllReadyH.cons rfl (fun K hK => ?_) (AllReadyH.cons rfl (fun K hK => ?_) AllReadyH.nil))
        · go_simp
          go_at_call 74
          refine (hSp.out _ (hb3.trans (hHeld.mono hb3.size))).mono ?_
          rintro z1 Wc ⟨qka2, qva2, qha2, qkc2, qvc2, qhc2, qka3, qva3, qha3, qkc3, qvc3, qhc3, n2, n3, hn2, hn3, rfl, hat2, hat3, hfr2, hfr3, hb4⟩
          have hsn := Lib.hid (And.intro hn2 (And.intro hn3 (And.intro (hfr2.mono hHeld.size) (hfr3.mono hHeld.size))))
          have off11 := off_before n2 qka2 qva2 qha2 qkc2 qvc2 qhc2 n3 qka3 qva3 qha3 qkc3 qvc3 qhc3 hat2 hat3 hfr2 hfr3 (heap_lt g11.out)
          clear hn2 hn3 hfr2 hfr3
          replace hat2 := Lib.hid hat2
          replace hat3 := Lib.hid hat3
          have hS1 := hHeld.trans (hb4.mono hHeld.size)
          replace g11 := Lib.hid (Below.heap' hb4 g11.out)
          clear hb4
          go_wp2_with fail
          refine hK.out _ _ hS1 (fun _ => ?_)
          clear hHeld hK K
          have hHeld := hS1
          clear hS1
          try simp only [Act.put, List.setIfInBounds_toArray, List.set_cons_zero, List.set_cons_succ]
          refine takeL 5 (by simp only [List.getElem?_toArray, List.getElem?_cons_succ, List.getElem?_cons_zero]; rfl) hHeld ?_
          refine ⟨by kernel_rfl, by kernel_rfl, by kernel_rfl, ?_, fun _ _ _ h => h, Or.inl ⟨by rfl, ?_⟩, ?_⟩
          rotate_left 1
          · intro w hSw; (try dsimp only at hSw); go_simp; first | done | with_reducible rfl
          try simp only [Act.put, List.setIfInBounds_toArray, List.set_cons_zero, List.set_cons_succ]
          refine takeL 6 (by simp only [List.getElem?_toArray, List.getElem?_cons_succ, List.getElem?_cons_zero]; rfl) hHeld ?_
          refine ⟨by kernel_rfl, by kernel_rfl, by kernel_rfl, ?_, fun _ _ _ h => h, Or.inl ⟨by rfl, ?_⟩, ?_⟩
          rotate_left 1
          · intro w hSw; (try dsimp only at hSw); go_simp; first | done | with_reducible rfl
          try simp only [Act.put, List.setIfInBounds_toArray, List.set_cons_zero, List.set_cons_succ]
          refine takeL 7 (by simp only [List.getElem?_toArray, List.getElem?_cons_succ, List.getElem?_cons_zero]; rfl) hHeld ?_
          refine ⟨by kernel_rfl, by kernel_rfl, by kernel_rfl, ?_, fun _ _ _ h => h, Or.inl ⟨by rfl, ?_⟩, ?_⟩
          rotate_left 1
          · intro w hSw; (try dsimp only at hSw); go_simp; first | done | with_reducible rfl
          try simp only [Act.put, List.setIfInBounds_toArray, List.set_cons_zero, List.set_cons_succ]
          refine takeL 8 (by simp only [List.getElem?_toArray, List.getElem?_cons_succ, List.getElem?_cons_zero]; rfl) hHeld ?_
          refine ⟨by kernel_rfl, by kernel_rfl, by kernel_rfl, ?_, fun _ _ _ h => h, Or.inl ⟨by rfl, ?_⟩, ?_⟩
          rotate_left 1
          · intro w hSw; (try dsimp only at hSw); go_simp; first | done | with_reducible rfl
          try simp only [Act.put, List.setIfInBounds_toArray, List.set_cons_zero, List.set_cons_succ]
          refine wpAnyH_ready (rs := [9]) (by kernel_rfl) (by simp) ?_
          refine (AllReadyH.cons rfl (fun K hK => ?_) AllReadyH.nil)
          go_simp
          have hS1 := hHeld.alloc hHeld.size (.cells #[.bool false, .slice none 0 0, .slice none 0 0, .slice none 0 0, .string ⟨#[]⟩, .bool false, .int .i64 0, .int .u64 0] 89)
          have g10 := Lib.hid (heap_alloc_new Wc (.cells #[.bool false, .slice none 0 0, .slice none 0 0, .slice none 0 0, .string ⟨#[]⟩, .bool false, .int .i64 0, .int .u64 0] 89))
          have l10 := hHeld.size
          have hb4 : Below Wc.heap.size Wc (Wc.alloc (.cells #[.bool false, .slice none 0 0, .slice none 0 0, .slice none 0 0, .string ⟨#[]⟩, .bool false, .int .i64 0, .int .u64 0] 89)) := (Below.refl _ _).alloc (Nat.le_refl _) _
          have ne := Nat.ne_of_lt (heap_lt g11.out)
          have hlt11 := heap_lt g11.out
          replace g11 := Lib.hid (Below.heap' hb4 g11.out)
          clear hlt11
          have off10 := off_behind n2 qka2 qva2 qha2 qkc2 qvc2 qhc2 n3 qka3 qva3 qha3 qkc3 qvc3 qhc3 hat2.out hat3.out hsn.out.2.2.1 hsn.out.2.2.2
          replace hat2 := Lib.hid (hat2.out.below _ _ _ _ _ _ _ hb4)
          replace hat3 := Lib.hid (hat3.out.below _ _ _ _ _ _ _ hb4)
          clear hb4
          generalize Wc.alloc (.cells #[.bool false, .slice none 0 0, .slice none 0 0, .slice none 0 0, .string ⟨#[]⟩, .bool false, .int .i64 0, .int .u64 0] 89) = Wd at *
          generalize Wc.heap.size = b10 at *
          refine hK.out _ _ hS1 (fun _ => ?_)
          clear hHeld hK K
          have hHeld := hS1
          clear hS1
          try simp only [Act.put, List.setIfInBounds_toArray, List.set_cons_zero, List.set_cons_succ]
          have ne11 := ne
          have ne10 := Ne.symm ne
          clear ne
          refine readyL 11 (by kernel_rfl) (by simp only [List.getElem?_toArray, List.getElem?_cons_succ, List.getElem?_cons_zero]; rfl) ?_
          intro K hK
          obtain ⟨⟨pc0, pc1, pc2, pc3, pc4, pc5, pc6, pc7⟩, pf0, pf1, pf2, pf3, pf4, pf5, pf6, pf7⟩ := zero_box g10.out
          have g10s := heap_lt g10.out
          go_simp
          go_wp2_with fail
          obtain ⟨hst, hup⟩ := node_stored (n2 := n2) (qka2 := qka2) (qva2 := qva2) (qha2 := qha2) (qkc2 := qkc2) (qvc2 := qvc2) (qhc2 := qhc2) g10.out
          have hS1 := hHeld.trans (hup.below hHeld.size (by simpa using l10))
          replace g11 := Lib.hid (hup.heap g11.out (by simpa using ne11))
          replace hat2 := Lib.hid (hat2.out.updB _ _ _ _ _ _ _ hup (fun b hb => by simpa using off10.1 b hb))
          replace hat3 := Lib.hid (hat3.out.updB _ _ _ _ _ _ _ hup (fun b hb => by simpa using off10.2 b hb))
          replace hst := Lib.hid hst
          clear hup pc0 pc1 pc2 pc3 pc4 pc5 pc6 pc7 pf0 pf1 pf2 pf3 pf4 pf5 pf6 pf7 g10s
          refine hK.out _ _ hS1 (fun _ => ?_)
          generalize (World.setCell (World.setCell (World.setCell (World.setCell (World.setCell (World.setCell (World.setCell (World.setCell Wd ⟨b10, 0, none⟩ (.bool n2.leaf)) ⟨b10, 1, none⟩ (.slice qka2 n2.keys.length qkc2)) ⟨b10, 2, none⟩ (.slice qva2 n2.vals.length qvc2)) ⟨b10, 3, none⟩ (.slice qha2 n2.kids.length qhc2)) ⟨b10, 4, none⟩ (.string n2.high)) ⟨b10, 5, none⟩ (.bool n2.bnd)) ⟨b10, 6, none⟩ (.int .i64 n2.next.1)) ⟨b10, 7, none⟩ (.int .u64 n2.next.2)) = W11 at *
          clear hHeld hK K g10
          have hHeld := hS1
          clear hS1
          have g10 := hst
          clear hst
          try simp only [Act.put, List.setIfInBounds_toArray, List.set_cons_zero, List.set_cons_succ]
          refine readyL 12 (by kernel_rfl) (by simp only [List.getElem?_toArray, List.getElem?_cons_succ, List.getElem?_cons_zero]; rfl) ?_
          intro K hK
          obtain ⟨⟨pc0, pc1, pc2, pc3, pc4, pc5, pc6, pc7⟩, pf0, pf1, pf2, pf3, pf4, pf5, pf6, pf7⟩ := zero_box g11.out
          have g10s := heap_lt g11.out
          go_simp
          go_wp2_with fail
          obtain ⟨hst, hup⟩ := node_stored (n2 := n3) (qka2 := qka3) (qva2 := qva3) (qha2 := qha3) (qkc2 := qkc3) (qvc2 := qvc3) (qhc2 := qhc3) g11.out
          have hS1 := hHeld.trans (hup.below hHeld.size (by simpa using l11))
          replace g10 := Lib.hid (hup.heap g10.out (by simpa using ne10))
          replace hat2 := Lib.hid (hat2.out.updB _ _ _ _ _ _ _ hup (fun b hb => by simpa using off11.1 b hb))
          replace hat3 := Lib.hid (hat3.out.updB _ _ _ _ _ _ _ hup (fun b hb => by simpa using off11.2 b hb))
          replace hst := Lib.hid hst
          clear hup pc0 pc1 pc2 pc3 pc4 pc5 pc6 pc7 pf0 pf1 pf2 pf3 pf4 pf5 pf6 pf7 g10s
          refine hK.out _ _ hS1 (fun _ => ?_)
          generalize (World.setCell (World.setCell (World.setCell (World.setCell (World.setCell (World.setCell (World.setCell (World.setCell W11 ⟨b11, 0, none⟩ (.bool n3.leaf)) ⟨b11, 1, none⟩ (.slice qka3 n3.keys.length qkc3)) ⟨b11, 2, none⟩ (.slice qva3 n3.vals.length qvc3)) ⟨b11, 3, none⟩ (.slice qha3 n3.kids.length qhc3)) ⟨b11, 4, none⟩ (.string n3.high)) ⟨b11, 5, none⟩ (.bool n3.bnd)) ⟨b11, 6, none⟩ (.int .i64 n3.next.1)) ⟨b11, 7, none⟩ (.int .u64 n3.next.2)) = W12 at *
          clear hHeld hK K g11
          have hHeld := hS1
          clear hS1
          have g11 := hst
          clear hst
          try simp only [Act.put, List.setIfInBounds_toArray, List.set_cons_zero, List.set_cons_succ]
          refine readyL 13 (by kernel_rfl) (by simp only [List.getElem?_toArray, List.getElem?_cons_succ, List.getElem?_cons_zero]; rfl) ?_
          intro K hK
          go_simp
          refine hK.out _ _ hHeld (fun _ => ?_)
          clear hK K
          try simp only [Act.put, List.setIfInBounds_toArray, List.set_cons_zero, List.set_cons_succ]
          refine wpAnyH_done (by kernel_rfl) ?_ _
          go_wp2_with fail
          go_meet
          exact ⟨b10, b11, qka2, qva2, qha2, qkc2, qvc2, qhc2, qka3, qva3, qha3, qkc3, qvc3, qhc3, n2, n3, Lib.hid hsn.out.1, Lib.hid hsn.out.2.1, rfl, rfl, rfl, g10.out, g11.out, hat2.out, hat3.out, hsn.out.2.2.1, hsn.out.2.2.2, hHeld, Lib.hid ⟨l10, l11⟩⟩
        · go_simp
          have hS1 := hHeld.alloc hHeld.size (.cells #[.bool false, .slice none 0 0, .slice none 0 0, .slice none 0 0, .string ⟨#[]⟩, .bool false, .int .i64 0, .int .u64 0] 89)
          have g10 := Lib.hid (heap_alloc_new Wb (.cells #[.bool false, .slice none 0 0, .slice none 0 0, .slice none 0 0, .string ⟨#[]⟩, .bool false, .int .i64 0, .int .u64 0] 89))
          have l10 := hHeld.size
          have hb4 : Below Wb.heap.size Wb (Wb.alloc (.cells #[.bool false, .slice none 0 0, .slice none 0 0, .slice none 0 0, .string ⟨#[]⟩, .bool false, .int .i64 0, .int .u64 0] 89)) := (Below.refl _ _).alloc (Nat.le_refl _) _
          have ne := Nat.ne_of_lt (heap_lt g11.out)
          have hlt11 := heap_lt g11.out
          replace g11 := Lib.hid (Below.heap' hb4 g11.out)
          clear hlt11
          clear hb4
          generalize Wb.alloc (.cells #[.bool false, .slice none 0 0, .slice none 0 0, .slice none 0 0, .string ⟨#[]⟩, .bool false, .int .i64 0, .int .u64 0] 89) = Wc at *
          generalize Wb.heap.size = b10 at *
          refine hK.out _ _ hS1 (fun _ => ?_)
          clear hHeld hK K
          have hHeld := hS1
          clear hS1
          try simp only [Act.put, List.setIfInBounds_toArray, List.set_cons_zero, List.set_cons_succ]
          refine wpAnyH_ready (rs := [4]) (by kernel_rfl) (by simp) ?_
          refine (AllReadyH.cons rfl (fun K hK => ?_) AllReadyH.nil)
          go_simp
          go_at_call 74
          refine (hSp.out _ (hb3.trans (hHeld.mono hb3.size))).mono ?_
          rintro z1 Wd ⟨qka2, qva2, qha2, qkc2, qvc2, qhc2, qka3, qva3, qha3, qkc3, qvc3, qhc3, n2, n3, hn2, hn3, rfl, hat2, hat3, hfr2, hfr3, hb4⟩
          have hsn := Lib.hid (And.intro hn2 (And.intro hn3 (And.intro (hfr2.mono hHeld.size) (hfr3.mono hHeld.size))))
          have off11 := off_before n2 qka2 qva2 qha2 qkc2 qvc2 qhc2 n3 qka3 qva3 qha3 qkc3 qvc3 qhc3 hat2 hat3 hfr2 hfr3 (heap_lt g11.out)
          have off10 := off_before n2 qka2 qva2 qha2 qkc2 qvc2 qhc2 n3 qka3 qva3 qha3 qkc3 qvc3 qhc3 hat2 hat3 hfr2 hfr3 (heap_lt g10.out)
          clear hn2 hn3 hfr2 hfr3
          replace hat2 := Lib.hid hat2
          replace hat3 := Lib.hid hat3
          have hS1 := hHeld.trans (hb4.mono hHeld.size)
          replace g11 := Lib.hid (Below.heap' hb4 g11.out)
          replace g10 := Lib.hid (Below.heap' hb4 g10.out)
          clear hb4
          go_wp2_with fail
          refine hK.out _ _ hS1 (fun _ => ?_)
          clear hHeld hK K
          have hHeld := hS1
          clear hS1
          try simp only [Act.put, List.setIfInBounds_toArray, List.set_cons_zero, List.set_cons_succ]
          refine takeL 5 (by simp only [List.getElem?_toArray, List.getElem?_cons_succ, List.getElem?_cons_zero]; rfl) hHeld ?_
          refine ⟨by kernel_rfl, by kernel_rfl, by kernel_rfl, ?_, fun _ _ _ h => h, Or.inl ⟨by rfl, ?_⟩, ?_⟩
          rotate_left 1
          · intro w hSw; (try dsimp only at hSw); go_simp; first | done | with_reducible rfl
          try simp only [Act.put, List.setIfInBounds_toArray, List.set_cons_zero, List.set_cons_succ]
          refine takeL 6 (by simp only [List.getElem?_toArray, List.getElem?_cons_succ, List.getElem?_cons_zero]; rfl) hHeld ?_
          refine ⟨by kernel_rfl, by kernel_rfl, by kernel_rfl, ?_, fun _ _ _ h => h, Or.inl ⟨by rfl, ?_⟩, ?_⟩
          rotate_left 1
          · intro w hSw; (try dsimp only at hSw); go_simp; first | done | with_reducible rfl
          try simp only [Act.put, List.setIfInBounds_toArray, List.set_cons_zero, List.set_cons_succ]
          refine takeL 7 (by simp only [List.getElem?_toArray, List.getElem?_cons_succ, List.getElem?_cons_zero]; rfl) hHeld ?_
          refine ⟨by kernel_rfl, by kernel_rfl, by kernel_rfl, ?_, fun _ _ _ h => h, Or.inl ⟨by rfl, ?_⟩, ?_⟩
          rotate_left 1
          · intro w hSw; (try dsimp only at hSw); go_simp; first | done | with_reducible rfl
          try simp only [Act.put, List.setIfInBounds_toArray, List.set_cons_zero, List.set_cons_succ]
          refine takeL 8 (by simp only [List.getElem?_toArray, List.getElem?_cons_succ, List.getElem?_cons_zero]; rfl) hHeld ?_
          refine ⟨by kernel_rfl, by kernel_rfl, by kernel_rfl, ?_, fun _ _ _ h => h, Or.inl ⟨by rfl, ?_⟩, ?_⟩
          rotate_left 1
          · intro w hSw; (try dsimp only at hSw); go_simp; first | done | with_reducible rfl
          try simp only [Act.put, List.setIfInBounds_toArray, List.set_cons_zero, List.set_cons_succ]
          have ne11 := ne
          have ne10 := Ne.symm ne
          clear ne
          refine readyL 11 (by kernel_rfl) (by simp only [List.getElem?_toArray, List.getElem?_cons_succ, List.getElem?_cons_zero]; rfl) ?_
          intro K hK
          obtain ⟨⟨pc0, pc1, pc2, pc3, pc4, pc5, pc6, pc7⟩, pf0, pf1, pf2, pf3, pf4, pf5, pf6, pf7⟩ := zero_box g10.out
          have g10s := heap_lt g10.out
          go_simp
          go_wp2_with fail
          obtain ⟨hst, hup⟩ := node_stored (n2 := n2) (qka2 := qka2) (qva2 := qva2) (qha2 := qha2) (qkc2 := qkc2) (qvc2 := qvc2) (qhc2 := qhc2) g10.out
          have hS1 := hHeld.trans (hup.below hHeld.size (by simpa using l10))
          replace g11 := Lib.hid (hup.heap g11.out (by simpa using ne11))
          replace hat2 := Lib.hid (hat2.out.updB _ _ _ _ _ _ _ hup (fun b hb => by simpa using off10.1 b hb))
          replace hat3 := Lib.hid (hat3.out.updB _ _ _ _ _ _ _ hup (fun b hb => by simpa using off10.2 b hb))
          replace hst := Lib.hid hst
          clear hup pc0 pc1 pc2 pc3 pc4 pc5 pc6 pc7 pf0 pf1 pf2 pf3 pf4 pf5 pf6 pf7 g10s
          refine hK.out _ _ hS1 (fun _ => ?_)
          generalize (World.setCell (World.setCell (World.setCell (World.setCell (World.setCell (World.setCell (World.setCell (World.setCell Wd ⟨b10, 0, none⟩ (.bool n2.leaf)) ⟨b10, 1, none⟩ (.slice qka2 n2.keys.length qkc2)) ⟨b10, 2, none⟩ (.slice qva2 n2.vals.length qvc2)) ⟨b10, 3, none⟩ (.slice qha2 n2.kids.length qhc2)) ⟨b10, 4, none⟩ (.string n2.high)) ⟨b10, 5, none⟩ (.bool n2.bnd)) ⟨b10, 6, none⟩ (.int .i64 n2.next.1)) ⟨b10, 7, none⟩ (.int .u64 n2.next.2)) = W11 at *
          clear hHeld hK K g10
          have hHeld := hS1
          clear hS1
          have g10 := hst
          clear hst
          try simp only [Act.put, List.setIfInBounds_toArray, List.set_cons_zero, List.set_cons_succ]
          refine readyL 12 (by kernel_rfl) (by simp only [List.getElem?_toArray, List.getElem?_cons_succ, List.getElem?_cons_zero]; rfl) ?_
          intro K hK
          obtain ⟨⟨pc0, pc1, pc2, pc3, pc4, pc5, pc6, pc7⟩, pf0, pf1, pf2, pf3, pf4, pf5, pf6, pf7⟩ := zero_box g11.out
          have g10s := heap_lt g11.out
          go_simp
          go_wp2_with fail
          obtain ⟨hst, hup⟩ := node_stored (n2 := n3) (qka2 := qka3) (qva2 := qva3) (qha2 := qha3) (qkc2 := qkc3) (qvc2 := qvc3) (qhc2 := qhc3) g11.out
          have hS1 := hHeld.trans (hup.below hHeld.size (by simpa using l11))
          replace g10 := Lib.hid (hup.heap g10.out (by simpa using ne10))
          replace hat2 := Lib.hid (hat2.out.updB _ _ _ _ _ _ _ hup (fun b hb => by simpa using off11.1 b hb))
          replace hat3 := Lib.hid (hat3.out.updB _ _ _ _ _ _ _ hup (fun b hb => by simpa using off11.2 b hb))
          replace hst := Lib.hid hst
          clear hup pc0 pc1 pc2 pc3 pc4 pc5 pc6 pc7 pf0 pf1 pf2 pf3 pf4 pf5 pf6 pf7 g10s
          refine hK.out _ _ hS1 (fun _ => ?_)
          generalize (World.setCell (World.setCell (World.setCell (World.setCell (World.setCell (World.setCell (World.setCell (World.setCell W11 ⟨b11, 0, none⟩ (.bool n3.leaf)) ⟨b11, 1, none⟩ (.slice qka3 n3.keys.length qkc3)) ⟨b11, 2, none⟩ (.slice qva3 n3.vals.length qvc3)) ⟨b11, 3, none⟩ (.slice qha3 n3.kids.length qhc3)) ⟨b11, 4, none⟩ (.string n3.high)) ⟨b11, 5, none⟩ (.bool n3.bnd)) ⟨b11, 6, none⟩ (.int .i64 n3.next.1)) ⟨b11, 7, none⟩ (.int .u64 n3.next.2)) = W12 at *
          clear hHeld hK K g11
          have hHeld := hS1
          clear hS1
          have g11 := hst
          clear hst
          try simp only [Act.put, List.setIfInBounds_toArray, List.set_cons_zero, List.set_cons_succ]
          refine readyL 13 (by kernel_rfl) (by simp only [List.getElem?_toArray, List.getElem?_cons_succ, List.getElem?_cons_zero]; rfl) ?_
          intro K hK
          go_simp
          refine hK.out _ _ hHeld (fun _ => ?_)
          clear hK K
          try simp only [Act.put, List.setIfInBounds_toArray, List.set_cons_zero, List.set_cons_succ]
          refine wpAnyH_done (by kernel_rfl) ?_ _
          go_wp2_with fail
          go_meet
          exact ⟨b10, b11, qka2, qva2, qha2, qkc2, qvc2, qhc2, qka3, qva3, qha3, qkc3, qvc3, qhc3, n2, n3, Lib.hid hsn.out.1, Lib.hid hsn.out.2.1, rfl, rfl, rfl, g10.out, g11.out, hat2.out, hat3.out, hsn.out.2.2.1, hsn.out.2.2.2, hHeld, Lib.hid ⟨l10, l11⟩⟩
    case rest =>
      obtain ⟨b10, b11, qka2, qva2, qha2, qkc2, qvc2, qhc2, qka3, qva3, qha3, qkc3, qvc3, qhc3, n2, n3, hn2, hn3, rfl, rfl, rfl, hb10, hb11, hat2, hat3, hfr2, hfr3, hb3c, hbb⟩ := hcut
      clear hK3 x1 x2 x3 x4 x5 x6 x7 x8 y1 y2 hSp
      have hbc2 : Below w2.heap.size w2 wc := hb3.trans (hb3c.mono hb3.size)
      have hsz3 := hb3.size
      obtain ⟨bs, hbs⟩ : ∃ bs, bs = bkN n2 qka2 qva2 qha2 ++ bkN n3 qka3 qva3 qha3 := ⟨_, rfl⟩
      obtain ⟨hBm, hUm⟩ := hBT1.out.1.marks hbc2 bs (fun b hb => by
        rw [hbs] at hb
        rcases List.mem_append.1 hb with hb | hb
        · exact bkN_lt n2 qka2 qva2 qha2 qkc2 qvc2 qhc2 hat2 (hfr2.mono hsz3) b hb
        · exact bkN_lt n3 qka3 qva3 qha3 qkc3 qvc3 qhc3 hat3 (hfr3.mono hsz3) b hb)
      have hTm := hBT1.out.2.ru hUm (by simp) (by simp)
      have hE2 : NodeE wc (markL ρ1 bs 6) [.bool n2.leaf, .slice qka2 n2.keys.length qkc2, .slice qva2 n2.vals.length qvc2, .slice qha2 n2.kids.length qhc2, .string n2.high, .bool n2.bnd, .int .i64 n2.next.1, .int .u64 n2.next.2] n2 := bkN_E n2 qka2 qva2 qha2 qkc2 qvc2 qhc2 hat2 (fun b hb => by rw [hbs]; simp [hb])
      have hE3 : NodeE wc (markL ρ1 bs 6) [.bool n3.leaf, .slice qka3 n3.keys.length qkc3, .slice qva3 n3.vals.length qvc3, .slice qha3 n3.kids.length qhc3, .string n3.high, .bool n3.bnd, .int .i64 n3.next.1, .int .u64 n3.next.2] n3 := bkN_E n3 qka3 qva3 qha3 qkc3 qvc3 qhc3 hat3 (fun b hb => by rw [hbs]; simp [hb])
      have hq3 := Below.heap' hbc2 hcel2.out
      obtain ⟨hst, hup⟩ := node_stored1 (n2 := n2) (qka2 := qka2) (qva2 := qva2) (qha2 := qha2) (qkc2 := qkc2) (qvc2 := qvc2) (qhc2 := qhc2) hq3
      obtain ⟨D2, d2, hB2, hT2, hU2', hda2, hsd2⟩ := TF.write hBm hTm (n := m) n2 qka2 qva2 qha2 qkc2 qvc2 qhc2 (A := X) (B := Y ++ [(((sl : Int), gn), zeroBN)]) (by rw [hF.out]; simp) (hL1 e he) e1.out e2.out hE2 hup hst
      have hsdA := Lib.hid (hsd1.trans hsd2)
      clear hsd1 hsd2
      have hUm2 := hU2.trans ((hUm.mono (rs' := [1, 2, 3, 12 + 3 * i]) (by simp)))
      have y := fun k => frozen_of_heap hq3 k
      obtain ⟨f1, f2, f3, f4, f5, f6, f7, f8⟩ := And.intro (y 1) (And.intro (y 2) (And.intro (y 3) (And.intro (y 4) (And.intro (y 5) (And.intro (y 6) (And.intro (y 7) (y 8)))))))
      obtain ⟨x1, x2, x3, x4, x5, x6, x7, x8⟩ := node_cells1 m qka qva qha qkc qvc qhc hq3
      obtain ⟨z0, z1, z2, z3, z4, z5, z6, z7⟩ := node_cells _ _ _ _ _ _ _ _ _ _ _ _ _ _ hb10
      have hqq := heap_lt hq3
      have hq10 := heap_lt hb10
      clear y
      have hbx4 := Below.heap' hb3c hbx3.out
      replace hst := Lib.hid hst
      replace hE2 := Lib.hid hE2
      replace hE3 := Lib.hid hE3
      replace hBT1 := Lib.hid (And.intro hBm hTm)
      replace hBT2 := Lib.hid (And.intro hB2 (And.intro hT2 (And.intro hU2' hda2)))
      clear hBm hTm hB2 hT2 hU2' hda2 hUm
      go_wp2_with fail
      have hne11 : b11 ≠ e.blk := by have := hbb.out.2; omega
      have hbx5 := hup.heap (Below.heap' hbc2 hbx2.out) (by simp; omega)
      have hbx8 := hup.heap hbx4 (by simp; omega)
      have hb11' := hup.heap hb11 (by simpa using hne11)
      have hE3' := Lib.hid (hE3.out.ru hBT2.out.2.2.1 (by simp; omega))
      have hszw : w2.heap.size ≤ wc.heap.size := hbc2.size
      clear x1 x2 x3 x4 x5 x6 x7 x8 z0 z1 z2 z3 z4 z5 z6 z7 f1 f2 f3 f4 f5 f6 f7 f8 hbx4 hb10 hb11 hq3 hE2 hE3 hcel2 hbx2 hbx3 hup hst hBT1 hat2 hat3 hq10 k1
      generalize (World.setCell (World.setCell (World.setCell (World.setCell (World.setCell (World.setCell (World.setCell (World.setCell wc ⟨e.blk, 1, none⟩ (.bool n2.leaf)) ⟨e.blk, 2, none⟩ (.slice qka2 n2.keys.length qkc2)) ⟨e.blk, 3, none⟩ (.slice qva2 n2.vals.length qvc2)) ⟨e.blk, 4, none⟩ (.slice qha2 n2.kids.length qhc2)) ⟨e.blk, 5, none⟩ (.string n2.high)) ⟨e.blk, 6, none⟩ (.bool n2.bnd)) ⟨e.blk, 7, none⟩ (.int .i64 n2.next.1)) ⟨e.blk, 8, none⟩ (.int .u64 n2.next.2)) = w4 at *
      obtain ⟨hB2, hT2, hU4, hda2⟩ := hBT2.out
      obtain ⟨e', he', e1', e2', ⟨qka0, qva0, qha0, qkc0, qvc0, qhc0, exz, _⟩, hcel', hG'⟩ := hT2.entry hB2 (x := (((sl : Int), gn), zeroBN)) (by simp)
      have hda' : d2.A.a = d.A.a := by rw [hda2, hda.out]
      rw [hda'] at hG'
      rw [exz] at hcel'
      have k1 : w4.cell? ⟨t, 1, none⟩ = some (.pointer (some ⟨d.A.a, 0, none⟩)) := by rw [← hda']; exact hT2.cells.2.1
      have hq4 : t < w4.heap.size := hT2.cells.2.2.2.2.2.2
      have y1 : w4.cell? ⟨w2.heap.size, 0, none⟩ = some (.int .i64 sl) := by rw [cell_of_heap hbx8]; rfl
      have y2 : w4.cell? ⟨w2.heap.size, 1, none⟩ = some (.int .u64 gn) := by rw [cell_of_heap hbx8]; rfl
      have hq8 := heap_lt hbx8
      replace hbx8 := Lib.hid hbx8
      replace hG' := Lib.hid hG'
      replace hda2 := Lib.hid hda2
      replace hda' := Lib.hid hda'
      replace hbs := Lib.hid hbs
      replace e1' := Lib.hid e1'
      replace e2' := Lib.hid e2'
      replace hcel' := Lib.hid hcel'
      replace hb11' := Lib.hid hb11'
      replace hbx5 := Lib.hid hbx5
      replace hUm2 := Lib.hid (hUm2.mono (rs' := [1, 2, 3, 12 + 3 * i, 10 + 3 * i]) (by simp) |>.trans (hU4.mono (by simp)))
      clear hB2 hT2 hU4
      go_cut [13] (fun v wx => v = .pointer (some ⟨e'.blk, 1, none⟩) ∧ Below w4.heap.size w4 wx)
      case first =>
        go_region_with (go_at_call 52; refine (hG'.out _ ((Below.refl w4.heap.size w4).drew)).mono ?_; rintro z1 w5 ⟨rfl, hb5⟩; have hbw := ((Below.refl w4.heap.size w4).drew).trans hb5; replace hbw := Lib.hid hbw; clear hb5)
        all_goals
          go_wp2_with fail
          go_meet
          exact ⟨rfl, hbw.out⟩
      case rest =>
        obtain ⟨rfl, hb5⟩ := hcut
        clear hG' k1 y1 y2 hq4
        have hq5 := Below.heap' hb5 hcel'.out
        have hb11c := Below.heap' hb5 hb11'.out
        obtain ⟨hst, hup⟩ := node_stored1 (n2 := n3) (qka2 := qka3) (qva2 := qva3) (qha2 := qha3) (qkc2 := qkc3) (qvc2 := qvc3) (qhc2 := qhc3) hq5
        obtain ⟨D3, d3, hB3, hT3, hU3, hda3, hsd3⟩ := TF.write (hBT2.out.1.below hb5) (hBT2.out.2.1.ru (RU.below (rs := []) hBT2.out.1.ro hb5) (by simp) (by simp)) (n := zeroBN) (hh := ((sl : Int), gn)) n3 qka3 qva3 qha3 qkc3 qvc3 qhc3 (A := X ++ (hh, n2) :: Y) (B := []) (by simp) he' e1'.out e2'.out (hE3'.out.ru (RU.below (rs := []) hBT2.out.1.ro hb5) (by simp)) hup hst
        have hsdB := Lib.hid (hsdA.out.trans hsd3)
        clear hsd3
        have hU5 := Lib.hid ((hUm2.out.trans ((RU.below (rs := []) hBT2.out.1.ro hb5).mono (by simp))).trans (hU3.mono (rs' := [1, 2, 3, 12 + 3 * i, 10 + 3 * i]) (by simp)))
        have hbe5 := block_lt_of_cell (keep hb5 (show w4.cell? ⟨e'.blk, 1, none⟩ = some (.bool zeroBN.leaf) by rw [cell_of_heap hcel'.out]; rfl))
        have y := fun k => frozen_of_heap hq5 k
        obtain ⟨f1, f2, f3, f4, f5, f6, f7, f8⟩ := And.intro (y 1) (And.intro (y 2) (And.intro (y 3) (And.intro (y 4) (And.intro (y 5) (And.intro (y 6) (And.intro (y 7) (y 8)))))))
        obtain ⟨x1, x2, x3, x4, x5, x6, x7, x8⟩ := node_cells1 zeroBN qka0 qva0 qha0 qkc0 qvc0 qhc0 hq5
        obtain ⟨z0, z1, z2, z3, z4, z5, z6, z7⟩ := node_cells _ _ _ _ _ _ _ _ _ _ _ _ _ _ hb11c
        have hq11 := heap_lt hb11c
        clear y
        replace hst := Lib.hid hst
        replace hq5 := Lib.hid hq5
        replace hBT3 := Lib.hid (And.intro hB3 (And.intro hT3 hda3))
        replace hb11c := Lib.hid hb11c
        clear hB3 hT3 hU3 hda3
        go_upto_region 7 with fail
        have hne8 : w2.heap.size ≠ e'.blk := fun hh => by
          have h1 := hcel'.out
          rw [← hh, hbx8.out] at h1
          injection h1 with h1
          injection h1 with h1 h2
          exact absurd (congrArg Array.size h1) (by simp)
        have hne5 : w.heap.size ≠ e'.blk := fun hh => by
          have h1 := hcel'.out
          rw [← hh, hbx5.out] at h1
          injection h1 with h1
          injection h1 with h1 h2
          exact absurd (congrArg Array.size h1) (by simp)
        have hbx8' := hup.heap (Below.heap' hb5 hbx8.out) (by simpa using hne8)
        have hbx5' := hup.heap (Below.heap' hb5 hbx5.out) (by simpa using hne5)
        clear x1 x2 x3 x4 x5 x6 x7 x8 z0 z1 z2 z3 z4 z5 z6 z7 f1 f2 f3 f4 f5 f6 f7 f8 hup hst hb11c hq11 hq5 hbe5 hBT2 hE3' hUm2 hbx8 hbx5 hb11' hcel' hb5 hq8 hne8 hne5
        generalize (World.setCell (World.setCell (World.setCell (World.setCell (World.setCell (World.setCell (World.setCell (World.setCell wc ⟨e'.blk, 1, none⟩ (.bool n3.leaf)) ⟨e'.blk, 2, none⟩ (.slice qka3 n3.keys.length qkc3)) ⟨e'.blk, 3, none⟩ (.slice qva3 n3.vals.length qvc3)) ⟨e'.blk, 4, none⟩ (.slice qha3 n3.kids.length qhc3)) ⟨e'.blk, 5, none⟩ (.string n3.high)) ⟨e'.blk, 6, none⟩ (.bool n3.bnd)) ⟨e'.blk, 7, none⟩ (.int .i64 n3.next.1)) ⟨e'.blk, 8, none⟩ (.int .u64 n3.next.2)) = w6 at *
        obtain ⟨hB3, hT3, hda3⟩ := hBT3.out
        have hda'' : d3.A.a = d.A.a := by rw [hda3, hda'.out]
        have k1 : w6.cell? ⟨t, 1, none⟩ = some (.pointer (some ⟨d.A.a, 0, none⟩)) := by rw [← hda'']; exact hT3.cells.2.1
        have hq6 : t < w6.heap.size := hT3.cells.2.2.2.2.2.2
        have y1 : w6.cell? ⟨w2.heap.size, 0, none⟩ = some (.int .i64 sl) := by rw [cell_of_heap hbx8']; rfl
        have y2 : w6.cell? ⟨w2.heap.size, 1, none⟩ = some (.int .u64 gn) := by rw [cell_of_heap hbx8']; rfl
        have v1 : w6.cell? ⟨w.heap.size, 0, none⟩ = some (.int .i64 hh.1) := by rw [cell_of_heap hbx5']; rfl
        have v2 : w6.cell? ⟨w.heap.size, 1, none⟩ = some (.int .u64 hh.2) := by rw [cell_of_heap hbx5']; rfl
        have hqa := heap_lt hbx8'
        have hqb := heap_lt hbx5'
        replace hda'' := Lib.hid hda''
        have hoff := Lib.hid (And.intro (hT3.own hB3) (And.intro (hT3.box hB3 hbx8') (hT3.box hB3 hbx5')))
        clear hB3 hT3 hda3 hbx5' hbx8'
        rcases hcase with ⟨rfl, hfr2'⟩ | ⟨hN0, hN1, hXY, ⟨ab, ao, rfl, hab0, ac1, ac2⟩, hAdd⟩
        · have hK6 := Lib.hid fun W (hW : Below w6.heap.size w6 W) => And.intro (keep hW k1) (And.intro (keep hW y1) (And.intro (keep hW y2) (And.intro (keep hW v1) (keep hW v2))))
          clear k1 y1 y2 v1 v2
          obtain ⟨s2, hs2⟩ : ∃ s2 : Nat, s2 = (free.set sl false).idxOf true := ⟨_, rfl⟩
          obtain ⟨gn2, hgn2⟩ : ∃ gn2 : Int, gn2 = gens.getD s2 0 := ⟨_, rfl⟩
          have hAl6 := Lib.hid fun W bk bh (hW : Below w6.heap.size w6 W) (gk : W.heap[bk]? = some (.cells #[.string m.sep] 9)) (gh : W.heap[bh]? = some (.cells #[.int .i64 hh.1, .int .u64 hh.2, .int .i64 sl, .int .u64 gn] 70)) (lk : w6.heap.size ≤ bk) (lh : w6.heap.size ≤ bh) => hBT3.out.2.1.allocB hBT3.out.1 (newRoot m.sep hh ((sl : Int), gn)) _ _ _ _ _ _ hW (root_at gk gh) (root_fresh lk lh) (by rw [hsl.out]; exact hfr2')
          rw [hda''.out, ← hs2, ← hgn2] at hAl6
          replace hs2 := Lib.hid hs2
          replace hgn2 := Lib.hid hgn2
          have hfin8 : Hid (∀ w8 ρ4 D4 d4, BW w0 w8 ρ4 P gens ((free.set sl false).set s2 false) D4 → TF w8 ρ4 P D4 rt i t d4 (X ++ (hh, n2) :: Y ++ [(((sl : Int), gn), n3)] ++ [(((s2 : Int), gn2), newRoot m.sep hh ((sl : Int), gn))]) r size → RU [1, 2, 3, 12 + 3 * i] w6 w8 (markL ρ1 bs 6) ρ4 → d4.A.a = d.A.a → SameD i D3 D4 →
              SpEnd w0 w ρ P gens free D rt i t d.A.a hh m (X ++ Y) (W1 ++ W2) hp n r size 0 ((w8.setCell ⟨t, 2, none⟩ (.int .i64 s2)).setCell ⟨t, 3, none⟩ (.int .u64 gn2))) := Lib.hid (by
            intro w8 ρ4 D4 d4 hB4 hT4 hU4 hda4 hsd4
            obtain ⟨hB5, hT5, hU5r⟩ := hT4.setRoot hB4 ((s2 : Int), gn2)
            refine ⟨ρ4, D4, d4, ((sl : Int), gn), _, hB5, ((hU5.out.mono (by simp)).trans (hU4.mono (by simp))).trans (hU5r.mono (by simp)), hda4, hsdB.out.trans hsd4, .inl ⟨rfl, ((s2 : Int), gn2), ?_, hT5.perm ?_⟩⟩
            · have k1 := count_one hfr
              rw [← hsl.out] at k1 hfr2'
              have k2 := count_one hfr2'
              rw [← hs2.out] at k2
              omega
            · rw [← hn2.out, ← hn3.out]
              simp only [List.append_assoc, List.cons_append, List.nil_append]
              refine (List.perm_middle).trans (List.Perm.cons _ ?_)
              rw [← List.append_assoc]
              exact (List.perm_append_comm (l₁ := X ++ Y) (l₂ := [_, _])).trans (by simp))
          go_upto_region 8 with fail
          have hBel := (Below.refl w6.heap.size w6).drew
          refine wp_region_held_drew (S := fun w' => w'.cell? ⟨t, 1, none⟩ = some (.pointer (some ⟨d.A.a, 0, none⟩)) ∧ w'.cell? ⟨w2.heap.size, 0, none⟩ = some (.int .i64 sl) ∧ w'.cell? ⟨w2.heap.size, 1, none⟩ = some (.int .u64 gn) ∧ w'.cell? ⟨w.heap.size, 0, none⟩ = some (.int .i64 hh.1) ∧ w'.cell? ⟨w.heap.size, 1, none⟩ = some (.int .u64 hh.2)) rfl (hK6.out _ hBel) (fun hHeld => ?_)
          refine takeL 0 (by simp only [List.getElem?_toArray, List.getElem?_cons_zero]; rfl) hHeld ?_
          refine ⟨by kernel_rfl, by kernel_rfl, by kernel_rfl, ?_, fun _ _ _ h => h, Or.inl ⟨by rfl, ?_⟩, ?_⟩
          rotate_left 1
          · intro w hSw; (try dsimp only at hSw); go_simp; first | done | with_reducible rfl
          try simp only [Act.put, List.setIfInBounds_toArray, List.set_cons_zero, List.set_cons_succ]
          refine takeL 1 (by simp only [List.getElem?_toArray, List.getElem?_cons_succ, List.getElem?_cons_zero]; rfl) hHeld ?_
          refine ⟨by kernel_rfl, by kernel_rfl, by kernel_rfl, ?_, fun _ _ _ h => h, Or.inl ⟨by rfl, ?_⟩, ?_⟩
          rotate_left 1
          · intro w hSw; (try dsimp only at hSw); go_simp; first | done | with_reducible rfl
          try simp only [Act.put, List.setIfInBounds_toArray, List.set_cons_zero, List.set_cons_succ]
          refine takeL 2 (by simp only [List.getElem?_toArray, List.getElem?_cons_succ, List.getElem?_cons_zero]; rfl) hHeld ?_
          refine ⟨by kernel_rfl, by kernel_rfl, by kernel_rfl, ?_, fun _ _ _ h => h, Or.inl ⟨by rfl, ?_⟩, ?_⟩
          rotate_left 1
          · intro w hSw; (try dsimp only at hSw); go_simp; first | done | with_reducible rfl
          try simp only [Act.put, List.setIfInBounds_toArray, List.set_cons_zero, List.set_cons_succ]
          refine takeL 3 (by simp only [List.getElem?_toArray, List.getElem?_cons_succ, List.getElem?_cons_zero]; rfl) hHeld ?_
          refine ⟨by kernel_rfl, by kernel_rfl, by kernel_rfl, ?_, fun _ _ _ h => h, Or.inl ⟨by rfl, ?_⟩, ?_⟩
          rotate_left 1
          · intro w hSw; (try dsimp only at hSw); go_simp; first | done | with_reducible rfl
          try simp only [Act.put, List.setIfInBounds_toArray, List.set_cons_zero, List.set_cons_succ]
          refine takeL 4 (by simp only [List.getElem?_toArray, List.getElem?_cons_succ, List.getElem?_cons_zero]; rfl) hHeld ?_
          refine ⟨by kernel_rfl, by kernel_rfl, by kernel_rfl, ?_, fun _ _ _ h => h, Or.inl ⟨by rfl, ?_⟩, ?_⟩
          rotate_left 1
          · intro w hSw; (try dsimp only at hSw); obtain ⟨i1, i2, i3, i4, i5⟩ := hSw; go_simp; first | done | with_reducible rfl
          try simp only [Act.put, List.setIfInBounds_toArray, List.set_cons_zero, List.set_cons_succ]
          refine takeL 5 (by simp only [List.getElem?_toArray, List.getElem?_cons_succ, List.getElem?_cons_zero]; rfl) hHeld ?_
          refine ⟨by kernel_rfl, by kernel_rfl, by kernel_rfl, ?_, fun _ _ _ h => h, Or.inl ⟨by rfl, ?_⟩, ?_⟩
          rotate_left 1
          · intro w hSw; (try dsimp only at hSw); go_simp; first | done | with_reducible rfl
          try simp only [Act.put, List.setIfInBounds_toArray, List.set_cons_zero, List.set_cons_succ]
          refine takeL 7 (by simp only [List.getElem?_toArray, List.getElem?_cons_succ, List.getElem?_cons_zero]; rfl) hHeld ?_
          refine ⟨by kernel_rfl, by kernel_rfl, by kernel_rfl, ?_, fun _ _ _ h => h, Or.inl ⟨by rfl, ?_⟩, ?_⟩
          rotate_left 1
          · intro w hSw; (try dsimp only at hSw); obtain ⟨i1, i2, i3, i4, i5⟩ := hSw; go_simp; first | done | with_reducible rfl
          try simp only [Act.put, List.setIfInBounds_toArray, List.set_cons_zero, List.set_cons_succ]
          refine takeL 8 (by simp only [List.getElem?_toArray, List.getElem?_cons_succ, List.getElem?_cons_zero]; rfl) hHeld ?_
          refine ⟨by kernel_rfl, by kernel_rfl, by kernel_rfl, ?_, fun _ _ _ h => h, Or.inl ⟨by rfl, ?_⟩, ?_⟩
          rotate_left 1
          · intro w hSw; (try dsimp only at hSw); obtain ⟨i1, i2, i3, i4, i5⟩ := hSw; go_simp; first | done | with_reducible rfl
          try simp only [Act.put, List.setIfInBounds_toArray, List.set_cons_zero, List.set_cons_succ]
          generalize w6.drew = Wa at *
          refine wpAnyH_ready (rs := [6, 9]) (by kernel_rfl) (by simp) ?_
          refine (AllReadyH.cons rfl (fun K hK => ?_) (AllReadyH.cons rfl (fun K hK => ?_) AllReadyH.nil))
          · go_simp
            have hB1 := hBel.alloc hBel.size (.cells #[.string m.sep] 9)
            have gk := Lib.hid (heap_alloc_new Wa (.cells #[.string m.sep] 9))
            have lk := hBel.size
            have hb4 : Below Wa.heap.size Wa (Wa.alloc (.cells #[.string m.sep] 9)) := (Below.refl _ _).alloc (Nat.le_refl _) _
            clear hb4
            generalize Wa.alloc (.cells #[.string m.sep] 9) = Wb at *
            generalize Wa.heap.size = bk at *
            have hS1 := hK6.out _ hB1
            refine hK.out _ _ hS1 (fun _ => ?_)
            clear hHeld hBel hK K
            have hHeld := hS1
            have hBel := hB1
            clear hS1 hB1
            try simp only [Act.put, List.setIfInBounds_toArray, List.set_cons_zero, List.set_cons_succ]
            refine readyL 9 (by kernel_rfl) (by simp only [List.getElem?_toArray, List.getElem?_cons_succ, List.getElem?_cons_zero]; rfl) ?_
            intro K hK
            go_simp
            have hB1 := hBel.alloc hBel.size (.cells #[.int .i64 hh.1, .int .u64 hh.2, .int .i64 sl, .int .u64 gn] 70)
            have gh := Lib.hid (heap_alloc_new Wb (.cells #[.int .i64 hh.1, .int .u64 hh.2, .int .i64 sl, .int .u64 gn] 70))
            have lh := hBel.size
            have hb4 : Below Wb.heap.size Wb (Wb.alloc (.cells #[.int .i64 hh.1, .int .u64 hh.2, .int .i64 sl, .int .u64 gn] 70)) := (Below.refl _ _).alloc (Nat.le_refl _) _
            replace gk := Lib.hid (Below.heap' hb4 gk.out)
            clear hb4
            generalize Wb.alloc (.cells #[.int .i64 hh.1, .int .u64 hh.2, .int .i64 sl, .int .u64 gn] 70) = Wc at *
            generalize Wb.heap.size = bh at *
            have hS1 := hK6.out _ hB1
            refine hK.out _ _ hS1 (fun _ => ?_)
            clear hHeld hBel hK K
            have hHeld := hS1
            have hBel := hB1
            clear hS1 hB1
            try simp only [Act.put, List.setIfInBounds_toArray, List.set_cons_zero, List.set_cons_succ]
            refine takeL 10 (by simp only [List.getElem?_toArray, List.getElem?_cons_succ, List.getElem?_cons_zero]; rfl) hHeld ?_
            refine ⟨by kernel_rfl, by kernel_rfl, by kernel_rfl, ?_, fun _ _ _ h => h, Or.inl ⟨by rfl, ?_⟩, ?_⟩
            rotate_left 1
            · intro w hSw; (try dsimp only at hSw); go_simp; first | done | with_reducible rfl
            try simp only [Act.put, List.setIfInBounds_toArray, List.set_cons_zero, List.set_cons_succ]
            refine readyL 11 (by kernel_rfl) (by simp only [List.getElem?_toArray, List.getElem?_cons_succ, List.getElem?_cons_zero]; rfl) ?_
            intro K hK
            go_simp
            go_at_call 39
            refine (hAl6.out Wc bk bh hBel gk.out gh.out lk lh).mono ?_
            rintro z1 w8 ⟨rfl, ρ4, D4, d4, hB4, hT4, hU4, hda4, hu4, hsd4⟩
            obtain ⟨i1, i2, i3, i4, i5⟩ := hK6.out _ hBel
            have hS1 := And.intro (hu4.cell i1 hoff.out.1) (And.intro (hu4.cell i2 hoff.out.2.1) (And.intro (hu4.cell i3 hoff.out.2.1) (And.intro (hu4.cell i4 hoff.out.2.2) (hu4.cell i5 hoff.out.2.2))))
            clear i1 i2 i3 i4 i5
            go_wp2_with fail
            refine hK.out _ _ hS1 (fun _ => ?_)
            clear hHeld hBel hK K
            have hHeld := hS1
            clear hS1
            try simp only [Act.put, List.setIfInBounds_toArray, List.set_cons_zero, List.set_cons_succ]
            refine takeL 12 (by simp only [List.getElem?_toArray, List.getElem?_cons_succ, List.getElem?_cons_zero]; rfl) hHeld ?_
            refine ⟨by kernel_rfl, by kernel_rfl, by kernel_rfl, ?_, fun _ _ _ h => h, Or.inl ⟨by rfl, ?_⟩, ?_⟩
            rotate_left 1
            · intro w hSw; (try dsimp only at hSw); go_simp; first | done | with_reducible rfl
            try simp only [Act.put, List.setIfInBounds_toArray, List.set_cons_zero, List.set_cons_succ]
            refine takeL 13 (by simp only [List.getElem?_toArray, List.getElem?_cons_succ, List.getElem?_cons_zero]; rfl) hHeld ?_
            refine ⟨by kernel_rfl, by kernel_rfl, by kernel_rfl, ?_, fun _ _ _ h => h, Or.inl ⟨by rfl, ?_⟩, ?_⟩
            rotate_left 1
            · intro w hSw; (try dsimp only at hSw); go_simp; first | done | with_reducible rfl
            try simp only [Act.put, List.setIfInBounds_toArray, List.set_cons_zero, List.set_cons_succ]
            refine takeL 14 (by simp only [List.getElem?_toArray, List.getElem?_cons_succ, List.getElem?_cons_zero]; rfl) hHeld ?_
            refine ⟨by kernel_rfl, by kernel_rfl, by kernel_rfl, ?_, fun _ _ _ h => h, Or.inl ⟨by rfl, ?_⟩, ?_⟩
            rotate_left 1
            · intro w hSw; (try dsimp only at hSw); go_simp; first | done | with_reducible rfl
            try simp only [Act.put, List.setIfInBounds_toArray, List.set_cons_zero, List.set_cons_succ]
            refine takeL 15 (by simp only [List.getElem?_toArray, List.getElem?_cons_succ, List.getElem?_cons_zero]; rfl) hHeld ?_
            refine ⟨by kernel_rfl, by kernel_rfl, by kernel_rfl, ?_, fun _ _ _ h => h, Or.inl ⟨by rfl, ?_⟩, ?_⟩
            rotate_left 1
            · intro w hSw; (try dsimp only at hSw); go_simp; first | done | with_reducible rfl
            try simp only [Act.put, List.setIfInBounds_toArray, List.set_cons_zero, List.set_cons_succ]
            refine takeL 16 (by simp only [List.getElem?_toArray, List.getElem?_cons_succ, List.getElem?_cons_zero]; rfl) hHeld ?_
            refine ⟨by kernel_rfl, by kernel_rfl, by kernel_rfl, ?_, fun _ _ _ h => h, Or.inl ⟨by rfl, ?_⟩, ?_⟩
            rotate_left 1
            · intro w hSw; (try dsimp only at hSw); go_simp; first | done | with_reducible rfl
            try simp only [Act.put, List.setIfInBounds_toArray, List.set_cons_zero, List.set_cons_succ]
            refine readyL 17 (by kernel_rfl) (by simp only [List.getElem?_toArray, List.getElem?_cons_succ, List.getElem?_cons_zero]; rfl) ?_
            intro K hK
            obtain ⟨_, _, j2, j3, _, _, hqt⟩ := hT4.cells
            have ft2 : w8.frozen? ⟨t, 2, none⟩ = false := frozen_of_heap hT4.blk _
            have ft3 : w8.frozen? ⟨t, 3, none⟩ = false := frozen_of_heap hT4.blk _
            replace hT4 := Lib.hid hT4
            replace hB4 := Lib.hid hB4
            go_simp
            go_wp2_with fail
            obtain ⟨i1, i2, i3, i4, i5⟩ := hHeld
            have hn8 : w2.heap.size ≠ t := by omega
            have hn5 : w.heap.size ≠ t := by omega
            refine hK.out _ _ ?_ (fun hHeld => ?_)
            · obtain ⟨hB5, hT5, hU5r⟩ := hT4.out.setRoot hB4.out ((s2 : Int), gn2)
              have hu5 := ((Upd.refl [t] w8).setCell (p := ⟨t, 2, none⟩) (by simp) (.int .i64 s2)).setCell (p := ⟨t, 3, none⟩) (by simp) (.int .u64 gn2)
              exact ⟨by rw [← hda4]; exact hT5.cells.2.1, hu5.cell i2 (by simpa using hn8), hu5.cell i3 (by simpa using hn8), hu5.cell i4 (by simpa using hn5), hu5.cell i5 (by simpa using hn5)⟩
            clear hK K i1 i2 i3 i4 i5
            try simp only [Act.put, List.setIfInBounds_toArray, List.set_cons_zero, List.set_cons_succ]
            refine wpAnyH_done (by kernel_rfl) ?_ _
            simp only [Exit.then]
            go_wp2_with fail
            refine bodyPost_ret (v := .tuple #[]) (by simp [results, Try.results57, go_sem]) rfl ?_
            exact ⟨rfl, hfin8.out w8 ρ4 D4 d4 hB4.out hT4.out hU4 hda4 hsd4⟩
          · go_simp
            have hB1 := hBel.alloc hBel.size (.cells #[.int .i64 hh.1, .int .u64 hh.2, .int .i64 sl, .int .u64 gn] 70)
            have gh := Lib.hid (heap_alloc_new Wa (.cells #[.int .i64 hh.1, .int .u64 hh.2, .int .i64 sl, .int .u64 gn] 70))
            have lh := hBel.size
            have hb4 : Below Wa.heap.size Wa (Wa.alloc (.cells #[.int .i64 hh.1, .int .u64 hh.2, .int .i64 sl, .int .u64 gn] 70)) := (Below.refl _ _).alloc (Nat.le_refl _) _
            clear hb4
            generalize Wa.alloc (.cells #[.int .i64 hh.1, .int .u64 hh.2, .int .i64 sl, .int .u64 gn] 70) = Wb at *
            generalize Wa.heap.size = bh at *
            have hS1 := hK6.out _ hB1
            refine hK.out _ _ hS1 (fun _ => ?_)
            clear hHeld hBel hK K
            have hHeld := hS1
            have hBel := hB1
            clear hS1 hB1
            try simp only [Act.put, List.setIfInBounds_toArray, List.set_cons_zero, List.set_cons_succ]
            refine readyL 6 (by kernel_rfl) (by simp only [List.getElem?_toArray, List.getElem?_cons_succ, List.getElem?_cons_zero]; rfl) ?_
            intro K hK
            go_simp
            have hB1 := hBel.alloc hBel.size (.cells #[.string m.sep] 9)
            have gk := Lib.hid (heap_alloc_new Wb (.cells #[.string m.sep] 9))
            have lk := hBel.size
            have hb4 : Below Wb.heap.size Wb (Wb.alloc (.cells #[.string m.sep] 9)) := (Below.refl _ _).alloc (Nat.le_refl _) _
            replace gh := Lib.hid (Below.heap' hb4 gh.out)
            clear hb4
            generalize Wb.alloc (.cells #[.string m.sep] 9) = Wc at *
            generalize Wb.heap.size = bk at *
            have hS1 := hK6.out _ hB1
            refine hK.out _ _ hS1 (fun _ => ?_)
            clear hHeld hBel hK K
            have hHeld := hS1
            have hBel := hB1
            clear hS1 hB1
            try simp only [Act.put, List.setIfInBounds_toArray, List.set_cons_zero, List.set_cons_succ]
            refine takeL 10 (by simp only [List.getElem?_toArray, List.getElem?_cons_succ, List.getElem?_cons_zero]; rfl) hHeld ?_
            refine ⟨by kernel_rfl, by kernel_rfl, by kernel_rfl, ?_, fun _ _ _ h => h, Or.inl ⟨by rfl, ?_⟩, ?_⟩
            rotate_left 1
            · intro w hSw; (try dsimp only at hSw); go_simp; first | done | with_reducible rfl
            try simp only [Act.put, List.setIfInBounds_toArray, List.set_cons_zero, List.set_cons_succ]
            refine readyL 11 (by kernel_rfl) (by simp only [List.getElem?_toArray, List.getElem?_cons_succ, List.getElem?_cons_zero]; rfl) ?_
            intro K hK
            go_simp
            go_at_call 39
            refine (hAl6.out Wc bk bh hBel gk.out gh.out lk lh).mono ?_
            rintro z1 w8 ⟨rfl, ρ4, D4, d4, hB4, hT4, hU4, hda4, hu4, hsd4⟩
            obtain ⟨i1, i2, i3, i4, i5⟩ := hK6.out _ hBel
            have hS1 := And.intro (hu4.cell i1 hoff.out.1) (And.intro (hu4.cell i2 hoff.out.2.1) (And.intro (hu4.cell i3 hoff.out.2.1) (And.intro (hu4.cell i4 hoff.out.2.2) (hu4.cell i5 hoff.out.2.2))))
            clear i1 i2 i3 i4 i5
            go_wp2_with fail
            refine hK.out _ _ hS1 (fun _ => ?_)
            clear hHeld hBel hK K
            have hHeld := hS1
            clear hS1
            try simp only [Act.put, List.setIfInBounds_toArray, List.set_cons_zero, List.set_cons_succ]
            refine takeL 12 (by simp only [List.getElem?_toArray, List.getElem?_cons_succ, List.getElem?_cons_zero]; rfl) hHeld ?_
            refine ⟨by kernel_rfl, by kernel_rfl, by kernel_rfl, ?_, fun _ _ _ h => h, Or.inl ⟨by rfl, ?_⟩, ?_⟩
            rotate_left 1
            · intro w hSw; (try dsimp only at hSw); go_simp; first | done | with_reducible rfl
            try simp only [Act.put, List.setIfInBounds_toArray, List.set_cons_zero, List.set_cons_succ]
            refine takeL 13 (by simp only [List.getElem?_toArray, List.getElem?_cons_succ, List.getElem?_cons_zero]; rfl) hHeld ?_
            refine ⟨by kernel_rfl, by kernel_rfl, by kernel_rfl, ?_, fun _ _ _ h => h, Or.inl ⟨by rfl, ?_⟩, ?_⟩
            rotate_left 1
            · intro w hSw; (try dsimp only at hSw); go_simp; first | done | with_reducible rfl
            try simp only [Act.put, List.setIfInBounds_toArray, List.set_cons_zero, List.set_cons_succ]
            refine takeL 14 (by simp only [List.getElem?_toArray, List.getElem?_cons_succ, List.getElem?_cons_zero]; rfl) hHeld ?_
            refine ⟨by kernel_rfl, by kernel_rfl, by kernel_rfl, ?_, fun _ _ _ h => h, Or.inl ⟨by rfl, ?_⟩, ?_⟩
            rotate_left 1
            · intro w hSw; (try dsimp only at hSw); go_simp; first | done | with_reducible rfl
            try simp only [Act.put, List.setIfInBounds_toArray, List.set_cons_zero, List.set_cons_succ]
            refine takeL 15 (by simp only [List.getElem?_toArray, List.getElem?_cons_succ, List.getElem?_cons_zero]; rfl) hHeld ?_
            refine ⟨by kernel_rfl, by kernel_rfl, by kernel_rfl, ?_, fun _ _ _ h => h, Or.inl ⟨by rfl, ?_⟩, ?_⟩
            rotate_left 1
            · intro w hSw; (try dsimp only at hSw); go_simp; first | done | with_reducible rfl
            try simp only [Act.put, List.setIfInBounds_toArray, List.set_cons_zero, List.set_cons_succ]
            refine takeL 16 (by simp only [List.getElem?_toArray, List.getElem?_cons_succ, List.getElem?_cons_zero]; rfl) hHeld ?_
            refine ⟨by kernel_rfl, by kernel_rfl, by kernel_rfl, ?_, fun _ _ _ h => h, Or.inl ⟨by rfl, ?_⟩, ?_⟩
            rotate_left 1
            · intro w hSw; (try dsimp only at hSw); go_simp; first | done | with_reducible rfl
            try simp only [Act.put, List.setIfInBounds_toArray, List.set_cons_zero, List.set_cons_succ]
            refine readyL 17 (by kernel_rfl) (by simp only [List.getElem?_toArray, List.getElem?_cons_succ, List.getElem?_cons_zero]; rfl) ?_
            intro K hK
            obtain ⟨_, _, j2, j3, _, _, hqt⟩ := hT4.cells
            have ft2 : w8.frozen? ⟨t, 2, none⟩ = false := frozen_of_heap hT4.blk _
            have ft3 : w8.frozen? ⟨t, 3, none⟩ = false := frozen_of_heap hT4.blk _
            replace hT4 := Lib.hid hT4
            replace hB4 := Lib.hid hB4
            go_simp
            go_wp2_with fail
            obtain ⟨i1, i2, i3, i4, i5⟩ := hHeld
            have hn8 : w2.heap.size ≠ t := by omega
            have hn5 : w.heap.size ≠ t := by omega
            refine hK.out _ _ ?_ (fun hHeld => ?_)
            · obtain ⟨hB5, hT5, hU5r⟩ := hT4.out.setRoot hB4.out ((s2 : Int), gn2)
              have hu5 := ((Upd.refl [t] w8).setCell (p := ⟨t, 2, none⟩) (by simp) (.int .i64 s2)).setCell (p := ⟨t, 3, none⟩) (by simp) (.int .u64 gn2)
              exact ⟨by rw [← hda4]; exact hT5.cells.2.1, hu5.cell i2 (by simpa using hn8), hu5.cell i3 (by simpa using hn8), hu5.cell i4 (by simpa using hn5), hu5.cell i5 (by simpa using hn5)⟩
            clear hK K i1 i2 i3 i4 i5
            try simp only [Act.put, List.setIfInBounds_toArray, List.set_cons_zero, List.set_cons_succ]
            refine wpAnyH_done (by kernel_rfl) ?_ _
            simp only [Exit.then]
            go_wp2_with fail
            refine bodyPost_ret (v := .tuple #[]) (by simp [results, Try.results57, go_sem]) rfl ?_
            exact ⟨rfl, hfin8.out w8 ρ4 D4 d4 hB4.out hT4.out hU4 hda4 hsd4⟩
        · have hab := block_lt_of_cell ac1
          have hac : ∀ o, w6.cell? ⟨ab, o, none⟩ = w.cell? ⟨ab, o, none⟩ := fun o => World.cell?_of_block (hU5.out.block ab hab (by rw [hab0]; simp; omega))
          have k0 : w6.cell? ⟨ab, ao + (N - 1) * 2, none⟩ = some (.int .i64 hp.1) := by rw [hac]; exact ac1
          have k2 : w6.cell? ⟨ab, ao + (N - 1) * 2 + 1, none⟩ = some (.int .u64 hp.2) := by rw [hac]; exact ac2
          obtain ⟨p, hpN⟩ : ∃ p, p = N - 1 := ⟨_, rfl⟩
          rw [← hpN] at k0 k2
          have hw1 : IntKind.i64.wrap ((N : Int) - 1) = (p : Int) := by rw [show ((N : Int) - 1) = (p : Int) by omega]; exact IntWalk.i64_in _ (by omega)
          have hp1 : p < N := by omega
          have hp2 : (p : Int) < (N : Int) := by omega
          have hNz : ((N : Int) == 0) = false := by rw [beq_eq_false_iff_ne]; omega
          have hqab := block_lt_of_cell k0
          have hmem : (hp, n) ∈ X ++ (hh, n2) :: Y ++ [(((sl : Int), gn), n3)] := by
            have : (hp, n) ∈ X ++ Y := by rw [hXY]; simp
            simp only [List.mem_append, List.mem_cons] at this ⊢
            rcases this with h1 | h1
            · exact .inl (.inl h1)
            · exact .inl (.inr (.inr h1))
          obtain ⟨u, hu0, u1, u2, ⟨qka1, qva1, qha1, qkc1, qvc1, qhc1, exu, hatu, fu1, fu2, fu3⟩, hcelu, hGu⟩ := hBT3.out.2.1.entry hBT3.out.1 hmem
          rw [hda''.out] at hGu
          rw [exu] at hcelu
          have hub := Lib.hid (heap_lt hcelu)
          have hperm : (X ++ (hh, n2) :: Y ++ [(((sl : Int), gn), n3)]).Perm ((hp, n) :: (hh, m.left ((sl : Int), gn)) :: (((sl : Int), gn), m.rightHalf) :: (W1 ++ W2)) := by
            rw [← hn2.out, ← hn3.out]
            simp only [List.append_assoc, List.cons_append]
            refine (List.perm_middle).trans ?_
            rw [← List.append_assoc, hXY]
            refine (List.Perm.cons _ ((List.perm_append_comm (l₁ := W1 ++ (hp, n) :: W2) (l₂ := [_])).trans (List.Perm.cons _ List.perm_middle))).trans ?_
            exact (List.Perm.cons _ (List.Perm.swap _ _ _)).trans (List.Perm.swap _ _ _)
          replace hpN := Lib.hid hpN
          replace hcelu := Lib.hid hcelu
          replace hGu := Lib.hid hGu
          replace hAdd := Lib.hid hAdd
          replace hXY := Lib.hid hXY
          replace hperm := Lib.hid hperm
          replace exu := Lib.hid exu
          replace u1 := Lib.hid u1
          replace u2 := Lib.hid u2
          replace hu0 := Lib.hid hu0
          replace hatu := Lib.hid hatu
          have hfr5 := Lib.hid (And.intro fu1 (And.intro fu2 fu3))
          clear fu1 fu2 fu3 hac ac1 ac2 hmem
          go_upto_region 9 with fail
          go_cut [15] (fun v wx => v = .pointer (some ⟨u.blk, 1, none⟩) ∧ Below w6.heap.size w6 wx)
          case first =>
            go_region_with (go_at_call 52; refine (hGu.out _ ((Below.refl w6.heap.size w6).drew)).mono ?_; rintro z1 w9 ⟨rfl, hb9⟩; have hbw := ((Below.refl w6.heap.size w6).drew).trans hb9; replace hbw := Lib.hid hbw; clear hb9)
            all_goals
              go_wp2_with fail
              go_meet
              exact ⟨rfl, hbw.out⟩
          case rest =>
            obtain ⟨rfl, hb9⟩ := hcut
            clear hGu k0 k1 k2 hw1 hp1 hp2 hNz hqab
            have hq9 := Lib.hid (Below.heap' hb9 hcelu.out)
            obtain ⟨x1, x2, x3, x4, x5, x6, x7, x8⟩ := node_cells1 n qka1 qva1 qha1 qkc1 qvc1 qhc1 hq9.out
            have z1 := keep hb9 y1
            have z2 := keep hb9 y2
            have hK9 := Lib.hid fun W (hW : Below wc.heap.size wc W) => And.intro (keep hW x1) (And.intro (keep hW x2) (And.intro (keep hW x3) (And.intro (keep hW x4) (And.intro (keep hW x5) (And.intro (keep hW x6) (And.intro (keep hW x7) (And.intro (keep hW x8) (And.intro (keep hW z1) (keep hW z2)))))))))
            have hAd := Lib.hid fun W (hW : Below wc.heap.size wc W) => hAdd.out ((sl : Int), gn) W qka1 qva1 qha1 qkc1 qvc1 qhc1 (hatu.out.below _ _ _ _ _ _ _ (hb9.trans (hW.mono hb9.size)))
            obtain ⟨na, hna⟩ : ∃ na, na = n.add m.sep ((sl : Int), gn) := ⟨_, rfl⟩
            rw [← hna] at hAd
            have hfin10 : Hid (∀ w10 qka2 qva2 qha2 qkc2 qvc2 qhc2, Below wc.heap.size wc w10 → NodeAt w10 na qka2 qva2 qha2 qkc2 qvc2 qhc2 → FreshN wc.heap.size qka2 qva2 qha2 → w10.heap[u.blk]? = some (.cells (.int .u64 u.gen :: [.bool n.leaf, .slice qka1 n.keys.length qkc1, .slice qva1 n.vals.length qvc1, .slice qha1 n.kids.length qhc1, .string n.high, .bool n.bnd, .int .i64 n.next.1, .int .u64 n.next.2]).toArray 130) →
                Upd [u.blk] w10 (World.setCell (World.setCell (World.setCell (World.setCell (World.setCell (World.setCell (World.setCell (World.setCell w10 ⟨u.blk, 1, none⟩ (.bool na.leaf)) ⟨u.blk, 2, none⟩ (.slice qka2 na.keys.length qkc2)) ⟨u.blk, 3, none⟩ (.slice qva2 na.vals.length qvc2)) ⟨u.blk, 4, none⟩ (.slice qha2 na.kids.length qhc2)) ⟨u.blk, 5, none⟩ (.string na.high)) ⟨u.blk, 6, none⟩ (.bool na.bnd)) ⟨u.blk, 7, none⟩ (.int .i64 na.next.1)) ⟨u.blk, 8, none⟩ (.int .u64 na.next.2)) ∧ SpEnd w0 w ρ P gens free D rt i t d.A.a hh m (X ++ Y) (W1 ++ W2) hp n r size N (World.setCell (World.setCell (World.setCell (World.setCell (World.setCell (World.setCell (World.setCell (World.setCell w10 ⟨u.blk, 1, none⟩ (.bool na.leaf)) ⟨u.blk, 2, none⟩ (.slice qka2 na.keys.length qkc2)) ⟨u.blk, 3, none⟩ (.slice qva2 na.vals.length qvc2)) ⟨u.blk, 4, none⟩ (.slice qha2 na.kids.length qhc2)) ⟨u.blk, 5, none⟩ (.string na.high)) ⟨u.blk, 6, none⟩ (.bool na.bnd)) ⟨u.blk, 7, none⟩ (.int .i64 na.next.1)) ⟨u.blk, 8, none⟩ (.int .u64 na.next.2))) := Lib.hid (by
              intro w10 qka2 qva2 qha2 qkc2 qvc2 qhc2 hb10' hat hfr hq
              obtain ⟨hst, hup⟩ := node_stored1 (n2 := na) (qka2 := qka2) (qva2 := qva2) (qha2 := qha2) (qkc2 := qkc2) (qvc2 := qvc2) (qhc2 := qhc2) hq
              refine ⟨hup, ?_⟩
              have hB9 := hBT3.out.1.below hb9
              have hT9 := hBT3.out.2.1.ru (RU.below (rs := []) hBT3.out.1.ro hb9) (by simp) (by simp)
              obtain ⟨hBm, hUm⟩ := hB9.marks hb10' (bkN na qka2 qva2 qha2) (bkN_lt na qka2 qva2 qha2 qkc2 qvc2 qhc2 hat hfr)
              have hTm := (hT9.ru hUm (by simp) (by simp)).perm hperm.out
              obtain ⟨D5, d5, hB5, hT5, hU6, hda5, hsd5⟩ := TF.write hBm hTm (n := n) (hh := hp) na qka2 qva2 qha2 qkc2 qvc2 qhc2 (A := []) (B := (hh, m.left ((sl : Int), gn)) :: (((sl : Int), gn), m.rightHalf) :: (W1 ++ W2)) rfl hu0.out u1.out u2.out (bkN_E na qka2 qva2 qha2 qkc2 qvc2 qhc2 hat (fun b hb => hb)) hup hst
              refine ⟨_, D5, d5, ((sl : Int), gn), _, hB5, ((hU5.out.mono (by simp)).trans ((RU.below (rs := []) hBT3.out.1.ro hb9).mono (by simp))).trans ((hUm.mono (by simp)).trans (hU6.mono (by simp))), by rw [hda5]; exact hda''.out, hsdB.out.trans hsd5, .inr ⟨hN0, ?_, by rw [← hna]; exact hT5⟩⟩
              have k1 := count_one hfr'
              rw [← hsl.out] at k1
              exact k1)
            replace hna := Lib.hid hna
            go_upto_region 10 with fail
            clear hK9 y1 y2
            go_region_with (go_at_call 75; refine (hAd.out _ (Below.refl wc.heap.size wc).drew).mono ?_; rintro z3 w10 ⟨qka2, qva2, qha2, qkc2, qvc2, qhc2, rfl, hown, hb10'⟩; have hW := (Below.refl wc.heap.size wc).drew.trans hb10'; have hq10' := Below.heap' hW hq9.out; have hfin := Lib.hid (hfin10.out w10 qka2 qva2 qha2 qkc2 qvc2 qhc2 hW hown.at hown.fresh hq10'); have y := fun k => frozen_of_heap hq10' k; obtain ⟨f1, f2, f3, f4, f5, f6, f7, f8⟩ := And.intro (y 1) (And.intro (y 2) (And.intro (y 3) (And.intro (y 4) (And.intro (y 5) (And.intro (y 6) (And.intro (y 7) (y 8))))))); obtain ⟨x1, x2, x3, x4, x5, x6, x7, x8⟩ := node_cells1 n qka1 qva1 qha1 qkc1 qvc1 qhc1 hq10'; have hqq10 := heap_lt hq10'; clear y hown hb10' hW; replace hq10' := Lib.hid hq10')
            all_goals
              go_wp2_with fail
              go_end0
              exact ⟨rfl, hfin.out.2⟩
end
end Go.Proofs.Ytlhobbfncjjeaaa
