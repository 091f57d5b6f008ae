/- A node's children, in whatever shape: New, Get, From, Len. -/
import Derived.Test.YtmhlokomlngdmaaGreatArtIx
import Derived.Test.YtmhlokomlngdmaaGreatArtSn
namespace Go.Proofs.YtmhlokomlngdmaaGreat
open Go.RowKit
/-- A node block nb has these children; B: all its blocks. -/
inductive KShape (w : World) (nb sb : Nat) (B : List Nat) (L : KL) : Value → Nat → Prop
  | so (kind : Nat) (hk : kind = 4 ∨ kind = 16) (hl : L.length ≤ kind) (n : Nat) (ka ha : Option Addr) (kc hc : Nat) (h : SoAt w sb n ka ha kc hc L) (hB : B = nb :: sb :: (ob ka ++ ob ha)) : KShape w nb sb B L (.iface 130 (.pointer (some ⟨sb, 0, none⟩))) kind
  | ix (hl : L.length ≤ 48) (pl : UInt8 → Nat) (kd : Nat → Hd) (us : List Bool) (h : IxAt w sb pl kd us L) (hB : B = [nb, sb]) : KShape w nb sb B L (.iface 152 (.pointer (some ⟨sb, 0, none⟩))) 48
  | di (h : DiAt w sb L) (hB : B = [nb, sb]) : KShape w nb sb B L (.iface 153 (.pointer (some ⟨sb, 0, none⟩))) 256
structure KAt (w : World) (nb : Nat) (B : List Nat) (L : KL) : Prop where
  ks : KSort L
  ex : ∃ sb v kind, w.heap[nb]? = some (.cells #[v, .int .i64 (kind : Nat), .int .i64 L.length] 136) ∧ KShape w nb sb B L v kind
theorem nd_sub_len {α : Type} : ∀ {l m : List α}, l.Nodup → (∀ a, a ∈ l → a ∈ m) → l.length ≤ m.length
  | [], _, _, _ => Nat.zero_le _
  | a :: l, m, hl, h => by
    obtain ⟨s, t, rfl⟩ := List.append_of_mem (h a (by simp))
    rw [List.nodup_cons] at hl
    have := nd_sub_len (l := l) (m := s ++ t) hl.2 fun b hb => by
      have h1 := h b (List.mem_cons_of_mem _ hb)
      simp only [List.mem_append, List.mem_cons] at h1 ⊢
      rcases h1 with h1 | rfl | h1
      · exact .inl h1
      · exact absurd hb hl.1
      · exact .inr h1
    simp at this ⊢
    omega
theorem ks_len : ∀ {L : KL}, KSort L → L.length ≤ 256 := fun {L} h => by
  have hn : (L.map fun y => y.1.toNat).Nodup := by
    refine List.pairwise_map.2 (List.Pairwise.imp (fun {a b} hab => ?_) h)
    have := UInt8.lt_iff_toNat_lt.1 hab
    omega
  have hsub : ∀ x, x ∈ (L.map fun y => y.1.toNat) → x ∈ List.range 256 := fun x hx => by
    obtain ⟨y, _, rfl⟩ := List.mem_map.1 hx
    exact List.mem_range.2 y.1.toNat_lt
  have := nd_sub_len hn hsub
  simpa using this
section
variable {w : World} {nb : Nat} {B : List Nat} {L : KL}
theorem SoAt.dbelow {w' : World} {sb n kc hc : Nat} {ka ha : Option Addr} (h : SoAt w sb n ka ha kc hc L) (hb : Below w.heap.size w w') : SoAt w' sb n ka ha kc hc L := h.below hb
theorem KAt.below {w' : World} (h : KAt w nb B L) (hb : Below w.heap.size w w') : KAt w' nb B L := by
  obtain ⟨hs, sb, v, kind, h1, h2⟩ := h
  refine ⟨hs, sb, v, kind, Below.heap' hb h1, ?_⟩
  cases h2 with
  | so kind hk hl n ka ha kc hc h hB => exact .so kind hk hl n ka ha kc hc (h.below hb) hB
  | ix hl pl kd us h hB => exact .ix hl pl kd us (h.below hb) hB
  | di h hB => exact .di (h.below hb) hB
theorem anNone_any (v : Value) (x y : Value) (hv : ∃ t a, v = .iface t (.pointer (some a))) (hb : w.heap[nb]? = some (.cells #[v, x, y] 136)) :
    Calls Tryz.prog 69 #[.pointer (some ⟨nb, 0, none⟩)] w fun e w' => e = .returned (.bool false) ∧ w = w' := by
  obtain ⟨t, a, rfl⟩ := hv
  have c0 : w.cell? ⟨nb, 0, none⟩ = some (.iface t (.pointer (some a))) := by rw [cell_of_heap hb]; rfl
  have hq := heap_lt hb
  clear hb
  go_enter Tryz.func69, Tryz.ntmps69
  go_wp2_with fail
  go_ret
  exact ⟨by simp, rfl⟩
set_option maxRecDepth 100000 in
set_option maxHeartbeats 2000000 in
theorem anGet_any (h : KAt w nb B L) (b : UInt8) :
    Calls Tryz.prog 46 #[.pointer (some ⟨nb, 0, none⟩), .int .u8 b.toNat] w fun e w' => e = .returned (.tuple #[hV ((kget L b).getD (0, 0)), .bool (kget L b).isSome]) ∧ Below w.heap.size w w' := by
  obtain ⟨hs, sb, v, kind, h1, h2⟩ := h
  obtain ⟨g, hg⟩ : ∃ g, g = (kget L b).getD (0, 0) := ⟨_, rfl⟩
  obtain ⟨f, hf⟩ : ∃ f, f = (kget L b).isSome := ⟨_, rfl⟩
  have hB1 : Below w.heap.size w (w.alloc (.cells #[.int .i64 0, .int .u64 0] 77)) := (Below.refl _ _).alloc (Nat.le_refl _) _
  have h1' := Below.heap' hB1 h1
  have c0 : (w.alloc (.cells #[.int .i64 0, .int .u64 0] 77)).cell? ⟨nb, 0, none⟩ = some v := by rw [cell_of_heap h1']; rfl
  have hq := heap_lt h1'
  have hl := ks_len hs
  have hbx := heap_alloc_new w (.cells #[.int .i64 0, .int .u64 0] 77)
  replace hbx := Lib.hid hbx
  cases h2 with
  | so kind hk hlk n ka ha kc hc h hB =>
    have hn := Lib.hid (anNone_any _ _ _ ⟨_, _, rfl⟩ h1')
    have hc2 := Lib.hid (soGet_any (h.below hB1) hs (by omega) b)
    rw [← hg, ← hf] at hc2 ⊢
    replace hB1 := Lib.hid hB1
    clear h h1 h1' hs hg hf hB
    go_enter Tryz.func46, Tryz.ntmps46
    go_upto_region 1 with fail
    generalize w.alloc (.cells #[.int .i64 0, .int .u64 0] 77) = W1 at *
    go_wp2_with fail
    refine hn.out.mono ?_
    clear hn
    rintro e w1 ⟨rfl, rfl⟩
    go_wp2_with fail
    refine hc2.out.mono ?_
    clear hc2
    rintro e w2 ⟨rfl, hb2⟩
    have hk2 := Below.heap' hb2 hbx.out
    obtain ⟨z0, z1⟩ := box2 hk2
    have f0 := frozen_of_heap hk2 0
    have f1 := frozen_of_heap hk2 1
    have zl := heap_lt hk2
    have hB2 := Lib.hid (hB1.out.trans (hb2.mono hB1.out.size))
    clear hb2 hk2 hbx hB1 c0 hq
    go_wp2_with fail
    refine bodyPost_ret (v := .tuple #[hV g, .bool f]) (by simp [results, Tryz.results46, go_sem, z0, z1]) rfl ⟨rfl, ?_⟩
    exact (hB2.out.setCell (p := ⟨w.heap.size, 0, none⟩) (Nat.le_refl _) _).setCell (p := ⟨w.heap.size, 1, none⟩) (Nat.le_refl _) _
  | ix hlk pl kd us h hB =>
    have hn := Lib.hid (anNone_any _ _ _ ⟨_, _, rfl⟩ h1')
    have hc2 := Lib.hid (ixGet_any (h.below hB1) b)
    rw [← hg, ← hf] at hc2 ⊢
    replace hB1 := Lib.hid hB1
    clear h h1 h1' hs hg hf hB
    go_enter Tryz.func46, Tryz.ntmps46
    go_upto_region 1 with fail
    generalize w.alloc (.cells #[.int .i64 0, .int .u64 0] 77) = W1 at *
    go_wp2_with fail
    refine hn.out.mono ?_
    clear hn
    rintro e w1 ⟨rfl, rfl⟩
    go_wp2_with fail
    refine hc2.out.mono ?_
    clear hc2
    rintro e w2 ⟨rfl, hb2⟩
    have hk2 := Below.heap' hb2 hbx.out
    obtain ⟨z0, z1⟩ := box2 hk2
    have f0 := frozen_of_heap hk2 0
    have f1 := frozen_of_heap hk2 1
    have zl := heap_lt hk2
    have hB2 := Lib.hid (hB1.out.trans (hb2.mono hB1.out.size))
    clear hb2 hk2 hbx hB1 c0 hq
    go_wp2_with fail
    refine bodyPost_ret (v := .tuple #[hV g, .bool f]) (by simp [results, Tryz.results46, go_sem, z0, z1]) rfl ⟨rfl, ?_⟩
    exact (hB2.out.setCell (p := ⟨w.heap.size, 0, none⟩) (Nat.le_refl _) _).setCell (p := ⟨w.heap.size, 1, none⟩) (Nat.le_refl _) _
  | di h hB =>
    have hn := Lib.hid (anNone_any _ _ _ ⟨_, _, rfl⟩ h1')
    have hc2 := Lib.hid (diGet_any (h.below hB1) b)
    rw [← hg, ← hf] at hc2 ⊢
    replace hB1 := Lib.hid hB1
    clear h h1 h1' hs hg hf hB
    go_enter Tryz.func46, Tryz.ntmps46
    go_upto_region 1 with fail
    generalize w.alloc (.cells #[.int .i64 0, .int .u64 0] 77) = W1 at *
    go_wp2_with fail
    refine hn.out.mono ?_
    clear hn
    rintro e w1 ⟨rfl, rfl⟩
    go_wp2_with fail
    refine hc2.out.mono ?_
    clear hc2
    rintro e w2 ⟨rfl, hb2⟩
    have hk2 := Below.heap' hb2 hbx.out
    obtain ⟨z0, z1⟩ := box2 hk2
    have f0 := frozen_of_heap hk2 0
    have f1 := frozen_of_heap hk2 1
    have zl := heap_lt hk2
    have hB2 := Lib.hid (hB1.out.trans (hb2.mono hB1.out.size))
    clear hb2 hk2 hbx hB1 c0 hq
    go_wp2_with fail
    refine bodyPost_ret (v := .tuple #[hV g, .bool f]) (by simp [results, Tryz.results46, go_sem, z0, z1]) rfl ⟨rfl, ?_⟩
    exact (hB2.out.setCell (p := ⟨w.heap.size, 0, none⟩) (Nat.le_refl _) _).setCell (p := ⟨w.heap.size, 1, none⟩) (Nat.le_refl _) _
theorem fromV_shape (o : Option (UInt8 × Hd)) : ∃ (b : Int) (g : Hd) (f : Bool), fromV o = .tuple #[.int .u8 b, hV g, .bool f] := by
  cases o with
  | none => exact ⟨0, (0, 0), false, rfl⟩
  | some y => exact ⟨y.1.toNat, y.2, true, rfl⟩
set_option maxRecDepth 100000 in
set_option maxHeartbeats 2000000 in
theorem anFrom_any (h : KAt w nb B L) (i : Nat) (hi : i ≤ 256) :
    Calls Tryz.prog 66 #[.pointer (some ⟨nb, 0, none⟩), .int .i64 i] w fun e w' => e = .returned (fromV (kfrom L i)) ∧ Below w.heap.size w w' := by
  obtain ⟨hs, sb, v, kind, h1, h2⟩ := h
  obtain ⟨fb, g, f, hfv⟩ := fromV_shape (kfrom L i)
  have hB1 : Below w.heap.size w (w.alloc (.cells #[.int .i64 0, .int .u64 0] 77)) := (Below.refl _ _).alloc (Nat.le_refl _) _
  have h1' := Below.heap' hB1 h1
  have c0 : (w.alloc (.cells #[.int .i64 0, .int .u64 0] 77)).cell? ⟨nb, 0, none⟩ = some v := by rw [cell_of_heap h1']; rfl
  have hq := heap_lt h1'
  have hl := ks_len hs
  have hbx := heap_alloc_new w (.cells #[.int .i64 0, .int .u64 0] 77)
  replace hbx := Lib.hid hbx
  rw [hfv]
  cases h2 with
  | so kind hk hlk n ka ha kc hc h hB =>
    have hn := Lib.hid (anNone_any _ _ _ ⟨_, _, rfl⟩ h1')
    have hc2 := Lib.hid (soFrom_any (h.below hB1) (by omega) i hi)
    rw [hfv] at hc2
    replace hB1 := Lib.hid hB1
    clear h h1 h1' hs hfv hB
    go_enter Tryz.func66, Tryz.ntmps66
    go_upto_region 1 with fail
    generalize w.alloc (.cells #[.int .i64 0, .int .u64 0] 77) = W1 at *
    go_wp2_with fail
    refine hn.out.mono ?_
    clear hn
    rintro e w1 ⟨rfl, rfl⟩
    go_wp2_with fail
    refine hc2.out.mono ?_
    clear hc2
    rintro e w2 ⟨rfl, hb2⟩
    have hk2 := Below.heap' hb2 hbx.out
    obtain ⟨z0, z1⟩ := box2 hk2
    have f0 := frozen_of_heap hk2 0
    have f1 := frozen_of_heap hk2 1
    have zl := heap_lt hk2
    have hB2 := Lib.hid (hB1.out.trans (hb2.mono hB1.out.size))
    clear hb2 hk2 hbx hB1 c0 hq
    go_wp2_with fail
    refine bodyPost_ret (v := .tuple #[.int .u8 fb, hV g, .bool f]) (by simp [results, Tryz.results66, go_sem, z0, z1]) rfl ⟨rfl, ?_⟩
    exact (hB2.out.setCell (p := ⟨w.heap.size, 0, none⟩) (Nat.le_refl _) _).setCell (p := ⟨w.heap.size, 1, none⟩) (Nat.le_refl _) _
  | ix hlk pl kd us h hB =>
    have hn := Lib.hid (anNone_any _ _ _ ⟨_, _, rfl⟩ h1')
    have hc2 := Lib.hid (ixFrom_any (h.below hB1) i hi)
    rw [hfv] at hc2
    replace hB1 := Lib.hid hB1
    clear h h1 h1' hs hfv hB
    go_enter Tryz.func66, Tryz.ntmps66
    go_upto_region 1 with fail
    generalize w.alloc (.cells #[.int .i64 0, .int .u64 0] 77) = W1 at *
    go_wp2_with fail
    refine hn.out.mono ?_
    clear hn
    rintro e w1 ⟨rfl, rfl⟩
    go_wp2_with fail
    refine hc2.out.mono ?_
    clear hc2
    rintro e w2 ⟨rfl, hb2⟩
    have hk2 := Below.heap' hb2 hbx.out
    obtain ⟨z0, z1⟩ := box2 hk2
    have f0 := frozen_of_heap hk2 0
    have f1 := frozen_of_heap hk2 1
    have zl := heap_lt hk2
    have hB2 := Lib.hid (hB1.out.trans (hb2.mono hB1.out.size))
    clear hb2 hk2 hbx hB1 c0 hq
    go_wp2_with fail
    refine bodyPost_ret (v := .tuple #[.int .u8 fb, hV g, .bool f]) (by simp [results, Tryz.results66, go_sem, z0, z1]) rfl ⟨rfl, ?_⟩
    exact (hB2.out.setCell (p := ⟨w.heap.size, 0, none⟩) (Nat.le_refl _) _).setCell (p := ⟨w.heap.size, 1, none⟩) (Nat.le_refl _) _
  | di h hB =>
    have hn := Lib.hid (anNone_any _ _ _ ⟨_, _, rfl⟩ h1')
    have hc2 := Lib.hid (diFrom_any (h.below hB1) hs i hi)
    rw [hfv] at hc2
    replace hB1 := Lib.hid hB1
    clear h h1 h1' hs hfv hB
    go_enter Tryz.func66, Tryz.ntmps66
    go_upto_region 1 with fail
    generalize w.alloc (.cells #[.int .i64 0, .int .u64 0] 77) = W1 at *
    go_wp2_with fail
    refine hn.out.mono ?_
    clear hn
    rintro e w1 ⟨rfl, rfl⟩
    go_wp2_with fail
    refine hc2.out.mono ?_
    clear hc2
    rintro e w2 ⟨rfl, hb2⟩
    have hk2 := Below.heap' hb2 hbx.out
    obtain ⟨z0, z1⟩ := box2 hk2
    have f0 := frozen_of_heap hk2 0
    have f1 := frozen_of_heap hk2 1
    have zl := heap_lt hk2
    have hB2 := Lib.hid (hB1.out.trans (hb2.mono hB1.out.size))
    clear hb2 hk2 hbx hB1 c0 hq
    go_wp2_with fail
    refine bodyPost_ret (v := .tuple #[.int .u8 fb, hV g, .bool f]) (by simp [results, Tryz.results66, go_sem, z0, z1]) rfl ⟨rfl, ?_⟩
    exact (hB2.out.setCell (p := ⟨w.heap.size, 0, none⟩) (Nat.le_refl _) _).setCell (p := ⟨w.heap.size, 1, none⟩) (Nat.le_refl _) _
theorem KAt.node (h : KAt w nb B L) : ∃ t a kind, w.heap[nb]? = some (.cells #[.iface t (.pointer (some a)), .int .i64 (kind : Nat), .int .i64 L.length] 136) := by
  obtain ⟨_, sb, v, kind, h1, h2⟩ := h
  cases h2 with
  | so kind hk hl n ka ha kc hc h hB => exact ⟨_, _, _, h1⟩
  | ix hl pl kd us h hB => exact ⟨_, _, _, h1⟩
  | di h hB => exact ⟨_, _, _, h1⟩
theorem anLen_any (h : KAt w nb B L) : Calls Tryz.prog 52 #[.pointer (some ⟨nb, 0, none⟩)] w fun e w' => e = .returned (.int .i64 L.length) ∧ w = w' := by
  obtain ⟨t, a, kind, hk⟩ := h.node
  have hn := Lib.hid (anNone_any _ _ _ ⟨_, _, rfl⟩ hk)
  have c2 : w.cell? ⟨nb, 2, none⟩ = some (.int .i64 L.length) := by rw [cell_of_heap hk]; rfl
  have hq := heap_lt hk
  clear hk h
  go_enter Tryz.func52, Tryz.ntmps52
  go_wp2_with fail
  refine hn.out.mono ?_
  clear hn
  rintro e w1 ⟨rfl, rfl⟩
  go_wp2_with fail
  go_ret
  exact ⟨rfl, rfl⟩
theorem anNew_any (w : World) : Calls Tryz.prog 30 #[] w fun e w' => e = .returned (.pointer (some ⟨w.heap.size + 1, 0, none⟩)) ∧ KAt w' (w.heap.size + 1) [w.heap.size + 1, w.heap.size] [] ∧ Below w.heap.size w w' ∧ w'.heap.size = w.heap.size + 2 := by
  have hb2 : Below w.heap.size w ((w.alloc (.cells #[.slice none 0 0, .slice none 0 0] 132)).alloc (.cells #[.iface 130 (.pointer (some ⟨w.heap.size, 0, none⟩)), .int .i64 4, .int .i64 0] 136)) := ((Below.refl _ _).alloc (Nat.le_refl _) _).alloc (by simp) _
  have hs := Below.heap' ((Below.refl (w.alloc (.cells #[.slice none 0 0, .slice none 0 0] 132)).heap.size _).alloc (Nat.le_refl _) (.cells #[.iface 130 (.pointer (some ⟨w.heap.size, 0, none⟩)), .int .i64 4, .int .i64 0] 136)) (heap_alloc_new w (.cells #[.slice none 0 0, .slice none 0 0] 132))
  have hn := heap_alloc_new (w.alloc (.cells #[.slice none 0 0, .slice none 0 0] 132)) (.cells #[.iface 130 (.pointer (some ⟨w.heap.size, 0, none⟩)), .int .i64 4, .int .i64 0] 136)
  rw [World.size_alloc] at hn
  have hfin := Lib.hid (show KAt _ (w.heap.size + 1) [w.heap.size + 1, w.heap.size] [] from ⟨List.Pairwise.nil, w.heap.size, _, 4, hn, .so 4 (.inl rfl) (by simp) 0 none none 0 0 ⟨rfl, hs, Row.nil bcel_len bcel_one _ _ _, Row.nil hcel_len hcel_one _ _ _⟩ rfl⟩)
  replace hb2 := Lib.hid hb2
  clear hs hn
  go_enter Tryz.func30, Tryz.ntmps30
  go_wp2_with fail
  go_ret
  exact ⟨rfl, hfin.out, hb2.out, by simp⟩
end
end Go.Proofs.YtmhlokomlngdmaaGreat
