/- A node's Set and Drop, in whatever shape. A node's Drop, in whatever shape. -/
import Derived.Test.YtmhlokomlngdmaaGreatArtBe
namespace Go.Proofs.YtmhlokomlngdmaaGreat
open Go.RowKit
/-- What a Set or a Drop leaves: B: the blocks before. -/
def KEnd (w : World) (nb : Nat) (B : List Nat) (L : KL) (w' : World) : Prop := (∃ B', KAt w' nb B' L ∧ ∀ q, q ∈ B' → q ∈ B ∨ w.heap.size ≤ q) ∧ Upd B w w'
section
variable {w w' : World} {nb : Nat} {B : List Nat} {L : KL}
theorem KAt.mem (h : KAt w nb B L) : nb ∈ B := by
  obtain ⟨_, sb, v, kind, _, h2⟩ := h
  cases h2 with
  | so kind hk hl n ka ha kc hc h hB => rw [hB]; simp
  | ix hl pl kd us h hB => rw [hB]; simp
  | di h hB => rw [hB]; simp
theorem KEnd.trans {w1 : World} {L1 : KL} (h : KEnd w nb B L1 w1) (h' : ∀ B1, KAt w1 nb B1 L1 → KEnd w1 nb B1 L w') : KEnd w nb B L w' := by
  obtain ⟨⟨B1, h1, h2⟩, hu⟩ := h
  obtain ⟨⟨B2, h3, h4⟩, hu2⟩ := h' B1 h1
  refine ⟨⟨B2, h3, fun q hq => ?_⟩, hu.via hu2 fun q hq => h2 q hq⟩
  rcases h4 q hq with e | e
  · exact h2 q e
  · exact .inr (Nat.le_trans hu.size e)
set_option maxRecDepth 100000 in
set_option maxHeartbeats 1000000 in
/-- A sorted one only changes its kind. -/
theorem beKind {sb n kc hc : Nat} {ka ha : Option Addr} {kind : Nat} (hk : kind = 4 ∨ kind = 16) {k0 : Int} (hnd : w.heap[nb]? = some (.cells #[.iface 130 (.pointer (some ⟨sb, 0, none⟩)), .int .i64 k0, .int .i64 L.length] 136)) (h : SoAt w sb n ka ha kc hc L) (hl : L.length ≤ kind) :
    Calls Tryz.prog 72 #[.pointer (some ⟨nb, 0, none⟩), .int .i64 (kind : Nat)] w fun e w' => e = .returned (.tuple #[]) ∧ (w'.heap[nb]? = some (.cells #[.iface 130 (.pointer (some ⟨sb, 0, none⟩)), .int .i64 (kind : Nat), .int .i64 L.length] 136) ∧ KShape w' nb sb (nb :: sb :: (ob ka ++ ob ha)) L (.iface 130 (.pointer (some ⟨sb, 0, none⟩))) kind) ∧ Upd [nb] w w' := by
  have hfin : Hid (∀ W o, W = (w.alloc o).setCell ⟨nb, 1, none⟩ (.int .i64 (kind : Nat)) → (W.heap[nb]? = some (.cells #[.iface 130 (.pointer (some ⟨sb, 0, none⟩)), .int .i64 (kind : Nat), .int .i64 L.length] 136) ∧ KShape W nb sb (nb :: sb :: (ob ka ++ ob ha)) L (.iface 130 (.pointer (some ⟨sb, 0, none⟩))) kind) ∧ Upd [nb] w W) := Lib.hid fun W o hW => by
    subst hW
    have hb : Below w.heap.size w (w.alloc o) := (Below.refl _ _).alloc (Nat.le_refl _) o
    have hu : Upd [nb] (w.alloc o) ((w.alloc o).setCell ⟨nb, 1, none⟩ (.int .i64 (kind : Nat))) := (Upd.refl [nb] _).setCell (p := ⟨nb, 1, none⟩) (by simp) _
    have hn1 := Below.heap' hb hnd
    refine ⟨⟨?_, .so kind hk hl n ka ha kc hc ((h.below hb).upd hu ?_ ?_ ?_) rfl⟩, (Upd.of_below hb).trans hu⟩
    · rw [heap_self, hn1]; rfl
    · simp; exact tag_ne h.blk hnd (by decide)
    · intro b hb'
      obtain ⟨c, hc⟩ := h.ky.tagB (ob_mem.1 hb')
      simp; exact tag_ne hc hnd (by decide)
    · intro b hb'
      obtain ⟨c, hc⟩ := h.kd.tagB (ob_mem.1 hb')
      simp; exact tag_ne hc hnd (by decide)
  have hb1 : Below w.heap.size w (w.alloc (.cells #[.nilIface] 134)) := (Below.refl _ _).alloc (Nat.le_refl _) _
  have hn1 := Below.heap' hb1 hnd
  have c0 : (w.alloc (.cells #[.nilIface] 134)).cell? ⟨nb, 0, none⟩ = some (.iface 130 (.pointer (some ⟨sb, 0, none⟩))) := by rw [cell_of_heap hn1]; rfl
  have c1 : (w.alloc (.cells #[.nilIface] 134)).cell? ⟨nb, 1, none⟩ = some (.int .i64 k0) := by rw [cell_of_heap hn1]; rfl
  have f1 := frozen_of_heap hn1 1
  have hq := heap_lt hn1
  replace hfin := Lib.hid fun W hW => hfin.out W (.cells #[.nilIface] 134) hW
  have hta := Lib.hid (fun W : World => (by rfl : Sem.run Tryz.prog (Instr.typeAssert (.iface 130 (.pointer (some ⟨sb, 0, none⟩))) 134 130 true) W = Result.ok (.tuple #[.pointer (some ⟨sb, 0, none⟩), .bool true]) W))
  clear h hnd hn1 hb1
  rcases hk with rfl | rfl
  · go_enter Tryz.func72, Tryz.ntmps72
    go_upto_region 1 with fail
    generalize w.alloc (.cells #[.nilIface] 134) = W1 at *
    go_wp2_with fail
    rw [hta.out]
    go_wp2_with fail
    refine bodyPost_ret (results_none rfl _ _ _) rfl ?_
    exact ⟨rfl, hfin.out _ rfl⟩
  · go_enter Tryz.func72, Tryz.ntmps72
    go_upto_region 1 with fail
    generalize w.alloc (.cells #[.nilIface] 134) = W1 at *
    go_wp2_with fail
    rw [hta.out]
    go_wp2_with fail
    refine bodyPost_ret (results_none rfl _ _ _) rfl ?_
    exact ⟨rfl, hfin.out _ rfl⟩
/-! ### One set in a shape -/
def SEnd (w : World) (nb sb : Nat) (B : List Nat) (L : KL) (v : Value) (kind : Nat) (e : Ending) (w' : World) : Prop := e = .returned (.tuple #[]) ∧ (∃ B', KShape w' nb sb B' L v kind ∧ ∀ q, q ∈ B' → q ∈ B ∨ w.heap.size ≤ q) ∧ Upd B w w' ∧ w'.heap[nb]? = w.heap[nb]?
theorem setK_so {sb n kc hc kind : Nat} {ka ha : Option Addr} (hk : kind = 4 ∨ kind = 16) (h : SoAt w sb n ka ha kc hc L) (hs : KSort L) {c : Array Value} (hnd : w.heap[nb]? = some (.cells c 136)) (b : UInt8) (x : Hd) (hl : (kput L b x).length ≤ kind) (hl2 : L.length ≤ kind) :
    Calls Tryz.prog 122 #[.pointer (some ⟨sb, 0, none⟩), .int .u8 b.toNat, hV x] w (SEnd w nb sb (nb :: sb :: (ob ka ++ ob ha)) (kput L b x) (.iface 130 (.pointer (some ⟨sb, 0, none⟩))) kind) := by
  have hc' : Calls Tryz.prog 122 #[.pointer (some ⟨sb, 0, none⟩), .int .u8 b.toNat, hV x] w (SoEnd w sb ka ha (kput L b x)) := by
    cases hg : kget L b with
    | none => exact soSet_new h hs (by omega) b x hg
    | some g => exact soSet_old h hs (by omega) b x (by rw [hg]; rfl)
  refine hc'.mono ?_
  rintro e w' ⟨he, n', ka', ha', kc', hc', hs', hu, hb⟩
  refine ⟨he, ⟨_, .so kind hk hl n' ka' ha' kc' hc' hs' rfl, fun q hq => ?_⟩, hu.mono (fun q hq => List.mem_cons_of_mem _ hq), ?_⟩
  · rcases List.mem_cons.1 hq with rfl | hq
    · exact .inl (by simp)
    · rcases List.mem_cons.1 hq with rfl | hq
      · exact .inl (by simp)
      · exact (hb q hq).imp (fun h => List.mem_cons_of_mem _ (List.mem_cons_of_mem _ h)) id
  · rw [hnd]
    refine hu.heap hnd fun hq => ?_
    rcases List.mem_cons.1 hq with e | hq
    · exact tag_ne hnd h.blk (by decide) e
    · rcases List.mem_append.1 hq with hq | hq
      · obtain ⟨c', hc'⟩ := h.ky.tagB (ob_mem.1 hq); exact tag_ne hnd hc' (by decide) rfl
      · obtain ⟨c', hc'⟩ := h.kd.tagB (ob_mem.1 hq); exact tag_ne hnd hc' (by decide) rfl
theorem setK_ix {sb : Nat} {pl : UInt8 → Nat} {kd : Nat → Hd} {us : List Bool} (h : IxAt w sb pl kd us L) {c : Array Value} (hnd : w.heap[nb]? = some (.cells c 136)) (b : UInt8) (x : Hd) (hl : (kput L b x).length ≤ 48) :
    Calls Tryz.prog 142 #[.pointer (some ⟨sb, 0, none⟩), .int .u8 b.toNat, hV x] w (SEnd w nb sb [nb, sb] (kput L b x) (.iface 152 (.pointer (some ⟨sb, 0, none⟩))) 48) := by
  have hc' : Calls Tryz.prog 142 #[.pointer (some ⟨sb, 0, none⟩), .int .u8 b.toNat, hV x] w (IxEnd w sb (kput L b x)) := by
    cases hp : pl b with
    | zero =>
      refine ixSet_new h hp ?_ x
      have hg := h.c.get b
      rw [if_pos hp] at hg
      have := kput_len h.c.ks b x
      rw [hg] at this
      simp at this
      omega
    | succ p => exact ixSet_old h hp x
  obtain ⟨cur, hcu, _⟩ := h.ex
  refine hc'.mono ?_
  rintro e w' ⟨he, ⟨pl', kd', us', h'⟩, hu⟩
  refine ⟨he, ⟨_, .ix hl pl' kd' us' h' rfl, fun q hq => .inl hq⟩, hu.mono (by simp), ?_⟩
  rw [hnd]
  exact hu.heap hnd (by simp; exact tag_ne hnd hcu (by decide))
theorem setK_di {sb : Nat} (h : DiAt w sb L) (hs : KSort L) {c : Array Value} (hnd : w.heap[nb]? = some (.cells c 136)) (b : UInt8) (x : Hd) :
    Calls Tryz.prog 146 #[.pointer (some ⟨sb, 0, none⟩), .int .u8 b.toNat, hV x] w (SEnd w nb sb [nb, sb] (kput L b x) (.iface 153 (.pointer (some ⟨sb, 0, none⟩))) 256) := by
  obtain ⟨cur, hcu, _⟩ := h.ex
  refine (diSet_any h hs b x).mono ?_
  rintro e w' ⟨he, h', hu⟩
  refine ⟨he, ⟨_, .di h' rfl, fun q hq => .inl hq⟩, hu.mono (by simp), ?_⟩
  rw [hnd]
  exact hu.heap hnd (by simp; exact tag_ne hnd hcu (by decide))
/-- Ahead of the set itself: the node's count is told already. -/
def SetSt (w : World) (nb : Nat) (B : List Nat) (L : KL) (b : UInt8) (x : Hd) (wz : World) : Prop := ∃ B2 sb v kind, wz.heap[nb]? = some (.cells #[v, .int .i64 (kind : Nat), .int .i64 (kput L b x).length] 136) ∧ KShape wz nb sb B2 L v kind ∧ (kput L b x).length ≤ kind ∧ (∀ q, q ∈ B2 → q ∈ B ∨ w.heap.size ≤ q) ∧ Upd B w wz
/-- All bytes are there. -/
theorem full_all {L : KL} (hs : KSort L) (hf : L.length = 256) (b : UInt8) : ∃ y, y ∈ L ∧ y.1 = b := by
  have hn : (L.map fun y => y.1.toNat).Nodup := by
    refine List.pairwise_map.2 (List.Pairwise.imp (fun {a b} hab => ?_) hs)
    have := UInt8.lt_iff_toNat_lt.1 hab
    omega
  have hsub : ∀ z, z ∈ (L.map fun y => y.1.toNat) → z ∈ List.range 256 := fun z hz => by
    obtain ⟨y, _, rfl⟩ := List.mem_map.1 hz
    exact List.mem_range.2 y.1.toNat_lt
  by_cases hb : b.toNat ∈ (L.map fun y => y.1.toNat)
  · obtain ⟨y, hy, e⟩ := List.mem_map.1 hb
    exact ⟨y, hy, UInt8.toNat_inj.1 e⟩
  · have := nd_sub_len (List.nodup_cons.2 ⟨hb, hn⟩) (m := List.range 256) fun z hz => by
      rcases List.mem_cons.1 hz with rfl | hz
      · exact List.mem_range.2 b.toNat_lt
      · exact hsub z hz
    simp at this
    omega
theorem KShape.updN {sb kind : Nat} {v : Value} {c : Array Value} (h : KShape w nb sb B L v kind) (hnd : w.heap[nb]? = some (.cells c 136)) (hu : Upd [nb] w w') : KShape w' nb sb B L v kind := by
  cases h with
  | so kind hk hl n ka ha kc hc h hB =>
    refine .so kind hk hl n ka ha kc hc (h.upd hu ?_ ?_ ?_) hB
    · simp; exact tag_ne h.blk hnd (by decide)
    · intro b hb'
      obtain ⟨c, hc⟩ := h.ky.tagB (ob_mem.1 hb')
      simp; exact tag_ne hc hnd (by decide)
    · intro b hb'
      obtain ⟨c, hc⟩ := h.kd.tagB (ob_mem.1 hb')
      simp; exact tag_ne hc hnd (by decide)
  | ix hl pl kd us h hB =>
    obtain ⟨cur, hcu, _⟩ := h.ex
    exact .ix hl pl kd us (h.upd hu (by simp; exact tag_ne hcu hnd (by decide))) hB
  | di h hB =>
    obtain ⟨cur, hcu, _⟩ := h.ex
    exact .di (h.upd hu (by simp; exact tag_ne hcu hnd (by decide))) hB
theorem KShape.le {sb kind : Nat} {v : Value} (h : KShape w nb sb B L v kind) (hs : KSort L) : L.length ≤ kind := by
  cases h with
  | so kind hk hl n ka ha kc hc h hB => exact hl
  | ix hl pl kd us h hB => exact hl
  | di h hB => exact ks_len hs
/-- A node with room for one child more. -/
def NodeK (w : World) (nb : Nat) (B : List Nat) (L : KL) (K : Nat) (wz : World) : Prop := ∃ B2 sb v, wz.heap[nb]? = some (.cells #[v, .int .i64 (K : Nat), .int .i64 L.length] 136) ∧ KShape wz nb sb B2 L v K ∧ (∀ q, q ∈ B2 → q ∈ B ∨ w.heap.size ≤ q) ∧ Upd B w wz
theorem NodeK.inc {K : Nat} {wz : World} {b : UInt8} {x : Hd} (h : NodeK w nb B L K wz) (hmem : nb ∈ B) (hK : L.length < K) (hs : KSort L) (hg : kget L b = none) : SetSt w nb B L b x (wz.setCell ⟨nb, 2, none⟩ (.int .i64 ((L.length + 1 : Nat) : Int))) := by
  obtain ⟨B2, sb, v, h1, h2, h3, h4⟩ := h
  have hl := kput_len hs b x
  rw [hg] at hl
  simp at hl
  have hu : Upd [nb] wz (wz.setCell ⟨nb, 2, none⟩ (.int .i64 ((L.length + 1 : Nat) : Int))) := (Upd.refl [nb] _).setCell (p := ⟨nb, 2, none⟩) (by simp) _
  refine ⟨B2, sb, v, K, ?_, h2.updN h1 hu, by omega, h3, h4.trans (hu.mono (by simpa using hmem))⟩
  rw [heap_self, h1, hl]
  rfl
theorem BeEnd.nodeK {K : Nat} {e : Ending} {w0 : World} (h : BeEnd w0 nb L K e w') (hmem : nb ∈ B) (hb : Below w.heap.size w w0) : e = .returned (.tuple #[]) ∧ NodeK w nb B L K w' := by
  obtain ⟨he, ⟨B', sb, v, h1, h2, h3⟩, hu⟩ := h
  refine ⟨he, B', sb, v, h1, h2, fun q hq => ?_, (Upd.of_below hb).trans (hu.mono (by simpa using hmem))⟩
  rcases h3 q hq with e | e
  · exact .inl (by rw [e]; exact hmem)
  · exact .inr (Nat.le_trans hb.size e)
set_option maxRecDepth 100000 in
set_option maxHeartbeats 4000000 in
theorem anSet_any (h : KAt w nb B L) (b : UInt8) (x : Hd) :
    Calls Tryz.prog 68 #[.pointer (some ⟨nb, 0, none⟩), .int .u8 b.toNat, hV x] w fun e w' => e = .returned (.bool (!(kget L b).isSome)) ∧ KEnd w nb B (kput L b x) w' := by
  have hs := h.ks
  have hl := ks_len hs
  have hmem := h.mem
  have hB1 : Below w.heap.size w (w.alloc (.cells #[.int .i64 x.1, .int .u64 x.2] 77)) := (Below.refl _ _).alloc (Nat.le_refl _) _
  have hbx := Lib.hid (heap_alloc_new w (.cells #[.int .i64 x.1, .int .u64 x.2] 77))
  obtain ⟨had, hhad⟩ : ∃ f, f = (kget L b).isSome := ⟨_, rfl⟩
  rw [← hhad]
  have hK := Lib.hid h
  obtain ⟨t0, a0, kd0, hnd⟩ := h.node
  have hn := Lib.hid (anNone_any _ _ _ ⟨_, _, rfl⟩ (Below.heap' hB1 hnd))
  go_enter Tryz.func68, Tryz.ntmps68
  go_upto_region 1 with fail
  obtain ⟨W1, hW1⟩ : ∃ W1, W1 = w.alloc (.cells #[.int .i64 x.1, .int .u64 x.2] 77) := ⟨_, rfl⟩
  rw [← hW1] at hB1 hbx hn ⊢
  replace hW1 := Lib.hid hW1
  obtain ⟨xb, hxb⟩ : ∃ xb, xb = w.heap.size := ⟨_, rfl⟩
  rw [← hxb] at hbx ⊢
  replace hxb := Lib.hid hxb
  replace hhad := Lib.hid hhad
  replace hnd := Lib.hid hnd
  clear h
  go_wp2_with fail
  refine hn.out.mono ?_
  clear hn
  rintro e w1 ⟨rfl, rfl⟩
  go_upto_region 3 with fail
  go_cut [8] (fun v8 wz => v8 = .bool had ∧ Below W1.heap.size W1 wz)
  case first =>
    obtain ⟨_, sb, v, kind, h1, h2⟩ := hK.out
    have c0 : W1.cell? ⟨nb, 0, none⟩ = some v := by rw [cell_of_heap (Below.heap' hB1 h1)]; rfl
    have hq := heap_lt (Below.heap' hB1 h1)
    cases h2 with
    | so kind hk hlk n ka ha kc hc h hB =>
      have hc2 := soGet_any (h.below hB1) hs (by omega) b
      rw [← hhad.out] at hc2
      replace hc2 := Lib.hid hc2
      replace hB1 := Lib.hid hB1
      clear h h1 hB hs
      go_wp2_with fail
      refine hc2.out.mono ?_
      clear hc2
      rintro e w2 ⟨rfl, hb2⟩
      replace hb2 := Lib.hid hb2
      go_wp2_with fail
      go_meet
      exact ⟨rfl, hb2.out.alloc hb2.out.size _⟩
    | ix hlk pl kd us h hB =>
      have hc2 := ixGet_any (h.below hB1) b
      rw [← hhad.out] at hc2
      replace hc2 := Lib.hid hc2
      replace hB1 := Lib.hid hB1
      clear h h1 hB hs
      go_wp2_with fail
      refine hc2.out.mono ?_
      clear hc2
      rintro e w2 ⟨rfl, hb2⟩
      replace hb2 := Lib.hid hb2
      go_wp2_with fail
      go_meet
      exact ⟨rfl, hb2.out.alloc hb2.out.size _⟩
    | di h hB =>
      have hc2 := diGet_any (h.below hB1) b
      rw [← hhad.out] at hc2
      replace hc2 := Lib.hid hc2
      replace hB1 := Lib.hid hB1
      clear h h1 hB hs
      go_wp2_with fail
      refine hc2.out.mono ?_
      clear hc2
      rintro e w2 ⟨rfl, hb2⟩
      replace hb2 := Lib.hid hb2
      go_wp2_with fail
      go_meet
      exact ⟨rfl, hb2.out.alloc hb2.out.size _⟩
  case rest =>
    obtain ⟨rfl, hb2⟩ := hcut
    obtain ⟨w2, hw2⟩ : ∃ w2, w2 = wc := ⟨_, rfl⟩
    subst hw2
    have hBw : Below w.heap.size w w2 := hB1.trans (hb2.mono hB1.size)
    have hbx2 := Below.heap' hb2 hbx.out
    go_upto_if 21 with fail
    go_cut [] (fun wz => SetSt w nb B L b x wz ∧ wz.heap[xb]? = some (.cells #[.int .i64 x.1, .int .u64 x.2] 77))
    case first =>
      have hK2 := hK.out.below hBw
      obtain ⟨_, sb, v, kind, h1, h2⟩ := hK2
      have hle := h2.le hs
      have hpl := kput_len hs b x
      have hB2m : Hid (∃ B2, KShape w2 nb sb B2 L v kind ∧ ∀ q, q ∈ B2 → q ∈ B ∨ w.heap.size ≤ q) := Lib.hid ⟨B, h2, fun q hq => .inl hq⟩
      have hxn : Hid (xb ≠ nb) := Lib.hid (by have := heap_lt hnd.out; have := hxb.out; omega)
      obtain ⟨hd, hhd⟩ : ∃ hd, hd = had := ⟨_, rfl⟩
      cases had with
      | true =>
        rw [← hhad.out] at hpl
        simp only [if_true] at hpl
        have hfin : Hid (SetSt w nb B L b x w2) := Lib.hid ⟨B, sb, v, kind, by rw [hpl]; exact h1, h2, by omega, fun q hq => .inl hq, Upd.of_below hBw⟩
        replace hbx2 := Lib.hid hbx2
        clear h1 h2 hle hpl hhd hB1 hb2 hBw hs
        go_wp2_with fail
        go_meet
        exact ⟨hfin.out, hbx2.out⟩
      | false =>
        have hg : kget L b = none := by
          have := hhad.out
          cases hg : kget L b with
          | none => rfl
          | some g => rw [hg] at this; cases this
        have c1 : w2.cell? ⟨nb, 1, none⟩ = some (.int .i64 (kind : Nat)) := by rw [cell_of_heap h1]; rfl
        have c2 : w2.cell? ⟨nb, 2, none⟩ = some (.int .i64 L.length) := by rw [cell_of_heap h1]; rfl
        have f2 := frozen_of_heap h1 2
        have hq := heap_lt h1
        have hw1 : IntKind.i64.wrap ((L.length : Int) + 1) = ((L.length + 1 : Nat) : Int) := IntWalk.i64_in _ (by omega)
        by_cases hfull : L.length = kind
        · have hfe : ((L.length : Int) == (kind : Int)) = true := by rw [hfull]; simp
          have hKw := Lib.hid (show KAt w2 nb B L from ⟨hs, sb, v, kind, h1, h2⟩)
          cases h2 with
          | so _ hk hlk n ka ha kc hc h hB =>
            rcases hk with rfl | rfl
            · rw [show ((4 : Nat) : Int) = 4 from rfl] at c1 hfe
              have hBe : Hid (∀ W, Below w2.heap.size w2 W → Calls Tryz.prog 72 #[.pointer (some ⟨nb, 0, none⟩), .int .i64 ((16 : Nat) : Int)] W fun e w' => e = .returned (.tuple #[]) ∧ Hid (NodeK w nb B L 16 w' ∧ w'.heap[xb]? = some (.cells #[.int .i64 x.1, .int .u64 x.2] 77))) := Lib.hid fun W hW => by
                have hkW := (show KAt w2 nb B L from hKw.out).below hW
                have hbW := Below.heap' hW hbx2
                have h1W := Below.heap' hW h1
                have hBW := hBw.trans (hW.mono hBw.size)
                refine (beKind (kind := 16) (.inr rfl) h1W (h.below hW) (by omega)).mono ?_
                rintro e w' ⟨he, ⟨q1, q2⟩, hu⟩
                exact ⟨he, Lib.hid ⟨⟨_, _, _, q1, q2, fun q hq => .inl (by rw [hB]; exact hq), (Upd.of_below hBW).trans (hu.mono (by simpa using hmem))⟩, hu.heap hbW (by simpa using hxn.out)⟩⟩
              replace hKw := Lib.hid hKw
              have hbx2' := hbx2
              clear h1 hle hpl hhd hB1 hb2 hBw hbx2 hbx2' h hB hB2m
              obtain ⟨len, hlen⟩ : ∃ len, len = L.length := ⟨_, rfl⟩
              rw [← hlen] at c2 hw1 hfe
              have hlK : Hid (L.length < 16) := Lib.hid (by omega)
              replace hlen := Lib.hid hlen
              replace hfull := Lib.hid hfull
              replace hg := Lib.hid hg
              have hs' := Lib.hid hs
              clear hs
              go_upto_region 5 with fail
              go_quiet (fail)
              go_wp2_with fail
              refine (hBe.out _ (below_drewN (Below.refl _ _) _)).mono ?_
              clear hBe c1 c2 f2 hq hfe
              rintro e w4 ⟨rfl, hN⟩
              have hN1 := hN.out.1
              obtain ⟨B4, sb4, v4, e1, _, _, _⟩ := hN1
              have c2 : w4.cell? ⟨nb, 2, none⟩ = some (.int .i64 len) := by rw [cell_of_heap e1, hlen.out]; rfl
              have f2 := frozen_of_heap e1 2
              have hq := heap_lt e1
              have hfin : Hid (SetSt w nb B L b x (w4.setCell ⟨nb, 2, none⟩ (.int .i64 ((len + 1 : Nat) : Int))) ∧ (w4.setCell ⟨nb, 2, none⟩ (.int .i64 ((len + 1 : Nat) : Int))).heap[xb]? = some (.cells #[.int .i64 x.1, .int .u64 x.2] 77)) := Lib.hid (by
                rw [hlen.out]
                exact ⟨NodeK.inc hN.out.1 hmem hlK.out hs'.out hg.out, by rw [heap_set_other _ _ (by simpa using hxn.out)]; exact hN.out.2⟩)
              clear e1
              go_wp2_with fail
              go_meet
              exact hfin.out
            · rw [show ((16 : Nat) : Int) = 16 from rfl] at c1 hfe
              have hBe : Hid (∀ W, Below w2.heap.size w2 W → Calls Tryz.prog 72 #[.pointer (some ⟨nb, 0, none⟩), .int .i64 48] W fun e w' => e = .returned (.tuple #[]) ∧ Hid (NodeK w nb B L 48 w' ∧ w'.heap[xb]? = some (.cells #[.int .i64 x.1, .int .u64 x.2] 77))) := Lib.hid fun W hW => by
                have hkW := (show KAt w2 nb B L from hKw.out).below hW
                have hbW := Below.heap' hW hbx2
                have h1W := Below.heap' hW h1
                have hBW := hBw.trans (hW.mono hBw.size)
                refine (be48 hkW (by omega)).mono ?_
                rintro e w' hE
                obtain ⟨q1, q2⟩ := hE.nodeK hmem hBW
                exact ⟨q1, Lib.hid ⟨q2, hE.2.2.heap hbW (by simpa using hxn.out)⟩⟩
              replace hKw := Lib.hid hKw
              have hbx2' := hbx2
              clear h1 hle hpl hhd hB1 hb2 hBw hbx2 hbx2' h hB hB2m
              obtain ⟨len, hlen⟩ : ∃ len, len = L.length := ⟨_, rfl⟩
              rw [← hlen] at c2 hw1 hfe
              have hlK : Hid (L.length < 48) := Lib.hid (by omega)
              replace hlen := Lib.hid hlen
              replace hfull := Lib.hid hfull
              replace hg := Lib.hid hg
              have hs' := Lib.hid hs
              clear hs
              go_upto_region 5 with fail
              go_quiet (fail)
              go_wp2_with fail
              refine (hBe.out _ (below_drewN (Below.refl _ _) _)).mono ?_
              clear hBe c1 c2 f2 hq hfe
              rintro e w4 ⟨rfl, hN⟩
              have hN1 := hN.out.1
              obtain ⟨B4, sb4, v4, e1, _, _, _⟩ := hN1
              have c2 : w4.cell? ⟨nb, 2, none⟩ = some (.int .i64 len) := by rw [cell_of_heap e1, hlen.out]; rfl
              have f2 := frozen_of_heap e1 2
              have hq := heap_lt e1
              have hfin : Hid (SetSt w nb B L b x (w4.setCell ⟨nb, 2, none⟩ (.int .i64 ((len + 1 : Nat) : Int))) ∧ (w4.setCell ⟨nb, 2, none⟩ (.int .i64 ((len + 1 : Nat) : Int))).heap[xb]? = some (.cells #[.int .i64 x.1, .int .u64 x.2] 77)) := Lib.hid (by
                rw [hlen.out]
                exact ⟨NodeK.inc hN.out.1 hmem hlK.out hs'.out hg.out, by rw [heap_set_other _ _ (by simpa using hxn.out)]; exact hN.out.2⟩)
              clear e1
              go_wp2_with fail
              go_meet
              exact hfin.out
          | ix hlk pl kd us h hB =>
            rw [show ((48 : Nat) : Int) = 48 from rfl] at c1 hfe
            have hBe : Hid (∀ W, Below w2.heap.size w2 W → Calls Tryz.prog 72 #[.pointer (some ⟨nb, 0, none⟩), .int .i64 256] W fun e w' => e = .returned (.tuple #[]) ∧ Hid (NodeK w nb B L 256 w' ∧ w'.heap[xb]? = some (.cells #[.int .i64 x.1, .int .u64 x.2] 77))) := Lib.hid fun W hW => by
              have hkW := (show KAt w2 nb B L from hKw.out).below hW
              have hbW := Below.heap' hW hbx2
              have h1W := Below.heap' hW h1
              have hBW := hBw.trans (hW.mono hBw.size)
              refine (be256 hkW (by omega)).mono ?_
              rintro e w' hE
              obtain ⟨q1, q2⟩ := hE.nodeK hmem hBW
              exact ⟨q1, Lib.hid ⟨q2, hE.2.2.heap hbW (by simpa using hxn.out)⟩⟩
            replace hKw := Lib.hid hKw
            have hbx2' := hbx2
            clear h1 hle hpl hhd hB1 hb2 hBw hbx2 hbx2' h hB hB2m
            obtain ⟨len, hlen⟩ : ∃ len, len = L.length := ⟨_, rfl⟩
            rw [← hlen] at c2 hw1 hfe
            have hlK : Hid (L.length < 256) := Lib.hid (by omega)
            replace hlen := Lib.hid hlen
            replace hfull := Lib.hid hfull
            replace hg := Lib.hid hg
            have hs' := Lib.hid hs
            clear hs
            go_upto_region 5 with fail
            go_quiet (fail)
            go_wp2_with fail
            refine (hBe.out _ (below_drewN (Below.refl _ _) _)).mono ?_
            clear hBe c1 c2 f2 hq hfe
            rintro e w4 ⟨rfl, hN⟩
            have hN1 := hN.out.1
            obtain ⟨B4, sb4, v4, e1, _, _, _⟩ := hN1
            have c2 : w4.cell? ⟨nb, 2, none⟩ = some (.int .i64 len) := by rw [cell_of_heap e1, hlen.out]; rfl
            have f2 := frozen_of_heap e1 2
            have hq := heap_lt e1
            have hfin : Hid (SetSt w nb B L b x (w4.setCell ⟨nb, 2, none⟩ (.int .i64 ((len + 1 : Nat) : Int))) ∧ (w4.setCell ⟨nb, 2, none⟩ (.int .i64 ((len + 1 : Nat) : Int))).heap[xb]? = some (.cells #[.int .i64 x.1, .int .u64 x.2] 77)) := Lib.hid (by
              rw [hlen.out]
              exact ⟨NodeK.inc hN.out.1 hmem hlK.out hs'.out hg.out, by rw [heap_set_other _ _ (by simpa using hxn.out)]; exact hN.out.2⟩)
            clear e1
            go_wp2_with fail
            go_meet
            exact hfin.out
          | di h hB =>
            exfalso
            obtain ⟨y, hy⟩ := full_all hs hfull b
            exact kget_none_iff.1 hg y hy.1 hy.2
        · have hlt : L.length < kind := by omega
          have hne : ((L.length : Int) == (kind : Int)) = false := by
            have : ¬ (L.length : Int) = (kind : Int) := by omega
            simpa using this
          have hfin : Hid (∀ W, Below w2.heap.size w2 W → SetSt w nb B L b x (W.setCell ⟨nb, 2, none⟩ (.int .i64 ((L.length + 1 : Nat) : Int))) ∧ (W.setCell ⟨nb, 2, none⟩ (.int .i64 ((L.length + 1 : Nat) : Int))).heap[xb]? = some (.cells #[.int .i64 x.1, .int .u64 x.2] 77)) := Lib.hid fun W hW => by
            have hkW := (show KAt w2 nb B L from ⟨hs, sb, v, kind, h1, h2⟩).below hW
            have h1W := Below.heap' hW h1
            refine ⟨NodeK.inc ⟨B, sb, v, h1W, ?_, fun q hq => .inl hq, Upd.of_below (hBw.trans (hW.mono hBw.size))⟩ hmem hlt hs hg, ?_⟩
            · cases h2 with
              | so kind hk hl n ka ha kc hc h hB => exact .so kind hk hl n ka ha kc hc (h.below hW) hB
              | ix hl pl kd us h hB => exact .ix hl pl kd us (h.below hW) hB
              | di h hB => exact .di (h.below hW) hB
            · rw [heap_set_other _ _ (by simpa using hxn.out)]
              exact Below.heap' hW hbx2
          clear h1 h2 hle hpl hhd hB1 hb2 hBw hs hbx2 hg hfull hlt
          obtain ⟨len, hlen⟩ : ∃ len, len = L.length := ⟨_, rfl⟩
          rw [← hlen] at hne c2 hw1 hfin
          replace hlen := Lib.hid hlen
          go_upto_region 5 with fail
          go_quiet (fail)
          go_wp2_with fail
          go_meet
          exact hfin.out _ (below_drewN (Below.refl _ _) _)
    case rest =>
      obtain ⟨hSt, hbx3⟩ := hcut
      obtain ⟨w5, hw5⟩ : ∃ w5, w5 = wc := ⟨_, rfl⟩
      subst hw5
      obtain ⟨B2, sb, v, kind, h1, h2, hle2, hBB, hu2⟩ := hSt
      obtain ⟨z0, z1⟩ := box2 hbx3
      have zl := heap_lt hbx3
      have c0 : w5.cell? ⟨nb, 0, none⟩ = some v := by rw [cell_of_heap h1]; rfl
      have hq := heap_lt h1
      have hd5 : Below w5.heap.size w5 w5.drew := (Below.refl _ _).drew
      have h1d := Below.heap' hd5 h1
      have hks := ks_put hs b x
      have hfin : Hid (∀ W, (∃ B', KShape W nb sb B' (kput L b x) v kind ∧ ∀ q, q ∈ B' → q ∈ B2 ∨ w5.drew.heap.size ≤ q) → Upd B2 w5.drew W → W.heap[nb]? = w5.drew.heap[nb]? → KEnd w nb B (kput L b x) W) := Lib.hid fun W ⟨B', q1, q2⟩ hu hn => by
        refine ⟨⟨B', ⟨hks, sb, v, kind, by rw [hn]; exact h1d, q1⟩, fun q hq => ?_⟩, hu2.via ((Upd.of_below (S := B2) hd5).trans hu) fun q hq => hBB q hq⟩
        rcases q2 q hq with e | e
        · exact hBB q e
        · exact .inr (Nat.le_trans hu2.size e)
      clear hB1 hb2 hBw hbx2
      cases h2 with
      | so _ hk hlk n ka ha kc hc h hB =>
        have hcs := setK_so hk (h.below hd5) hs h1d b x hle2 hlk
        rw [← hB] at hcs
        replace hcs := Lib.hid hcs
        clear h h1 h1d hB hs hbx3 hu2 hBB hle2 hks hd5
        go_upto_region 13 with fail
        go_region_with (go_at_call 122; refine hcs.out.mono ?_; clear hcs; rintro z w6 ⟨rfl, q1, q2, q3⟩; replace q1 := Lib.hid q1; replace q2 := Lib.hid q2; replace q3 := Lib.hid q3)
        all_goals
          go_wp2_with fail
          go_ret
          exact ⟨rfl, hfin.out _ q1.out q2.out q3.out⟩
      | ix hlk pl kd us h hB =>
        have hcs := setK_ix (h.below hd5) h1d b x hle2
        rw [← hB] at hcs
        replace hcs := Lib.hid hcs
        clear h h1 h1d hB hs hbx3 hu2 hBB hle2 hks hd5
        go_upto_region 13 with fail
        go_region_with (go_at_call 142; refine hcs.out.mono ?_; clear hcs; rintro z w6 ⟨rfl, q1, q2, q3⟩; replace q1 := Lib.hid q1; replace q2 := Lib.hid q2; replace q3 := Lib.hid q3)
        all_goals
          go_wp2_with fail
          go_ret
          exact ⟨rfl, hfin.out _ q1.out q2.out q3.out⟩
      | di h hB =>
        have hcs := setK_di (h.below hd5) hs h1d b x
        rw [← hB] at hcs
        replace hcs := Lib.hid hcs
        clear h h1 h1d hB hs hbx3 hu2 hBB hle2 hks hd5
        go_upto_region 13 with fail
        go_region_with (go_at_call 146; refine hcs.out.mono ?_; clear hcs; rintro z w6 ⟨rfl, q1, q2, q3⟩; replace q1 := Lib.hid q1; replace q2 := Lib.hid q2; replace q3 := Lib.hid q3)
        all_goals
          go_wp2_with fail
          go_ret
          exact ⟨rfl, hfin.out _ q1.out q2.out q3.out⟩
end
end Go.Proofs.YtmhlokomlngdmaaGreat
namespace Go.Proofs.YtmhlokomlngdmaaGreat
open Go.RowKit
section
variable {w w' : World} {nb : Nat} {B : List Nat} {L : KL}
theorem kdel_le (L : KL) (b : UInt8) : (kdel L b).length ≤ L.length := List.length_filter_le _ _
theorem dropK_so {sb n kc hc kind : Nat} {ka ha : Option Addr} (hk : kind = 4 ∨ kind = 16) (h : SoAt w sb n ka ha kc hc L) (hs : KSort L) {c : Array Value} (hnd : w.heap[nb]? = some (.cells c 136)) (b : UInt8) (hl2 : L.length ≤ kind) :
    Calls Tryz.prog 119 #[.pointer (some ⟨sb, 0, none⟩), .int .u8 b.toNat] w (SEnd w nb sb (nb :: sb :: (ob ka ++ ob ha)) (kdel L b) (.iface 130 (.pointer (some ⟨sb, 0, none⟩))) kind) := by
  have hdl := kdel_le L b
  refine (soDrop_any h hs (by omega) b).mono ?_
  rintro e w' ⟨he, n', ka', ha', kc', hc', hs', hu, hb⟩
  refine ⟨he, ⟨_, .so kind hk (by omega) n' ka' ha' kc' hc' hs' rfl, fun q hq => ?_⟩, hu.mono (fun q hq => List.mem_cons_of_mem _ hq), ?_⟩
  · rcases List.mem_cons.1 hq with rfl | hq
    · exact .inl (by simp)
    · rcases List.mem_cons.1 hq with rfl | hq
      · exact .inl (by simp)
      · exact (hb q hq).imp (fun h => List.mem_cons_of_mem _ (List.mem_cons_of_mem _ h)) id
  · rw [hnd]
    refine hu.heap hnd fun hq => ?_
    rcases List.mem_cons.1 hq with e | hq
    · exact tag_ne hnd h.blk (by decide) e
    · rcases List.mem_append.1 hq with hq | hq
      · obtain ⟨c', hc'⟩ := h.ky.tagB (ob_mem.1 hq); exact tag_ne hnd hc' (by decide) rfl
      · obtain ⟨c', hc'⟩ := h.kd.tagB (ob_mem.1 hq); exact tag_ne hnd hc' (by decide) rfl
theorem dropK_ix {sb : Nat} {pl : UInt8 → Nat} {kd : Nat → Hd} {us : List Bool} (h : IxAt w sb pl kd us L) {c : Array Value} (hnd : w.heap[nb]? = some (.cells c 136)) (b : UInt8) (hl : L.length ≤ 48) :
    Calls Tryz.prog 139 #[.pointer (some ⟨sb, 0, none⟩), .int .u8 b.toNat] w (SEnd w nb sb [nb, sb] (kdel L b) (.iface 152 (.pointer (some ⟨sb, 0, none⟩))) 48) := by
  have hdl := kdel_le L b
  have hc' : Calls Tryz.prog 139 #[.pointer (some ⟨sb, 0, none⟩), .int .u8 b.toNat] w (IxEnd w sb (kdel L b)) := by
    cases hp : pl b with
    | zero => exact ixDrop_none h hp
    | succ p => exact ixDrop_some h hp
  obtain ⟨cur, hcu, _⟩ := h.ex
  refine hc'.mono ?_
  rintro e w' ⟨he, ⟨pl', kd', us', h'⟩, hu⟩
  refine ⟨he, ⟨_, .ix (by omega) pl' kd' us' h' rfl, fun q hq => .inl hq⟩, hu.mono (by simp), ?_⟩
  rw [hnd]
  exact hu.heap hnd (by simp; exact tag_ne hnd hcu (by decide))
theorem dropK_di {sb : Nat} (h : DiAt w sb L) (hs : KSort L) {c : Array Value} (hnd : w.heap[nb]? = some (.cells c 136)) (b : UInt8) :
    Calls Tryz.prog 143 #[.pointer (some ⟨sb, 0, none⟩), .int .u8 b.toNat] w (SEnd w nb sb [nb, sb] (kdel L b) (.iface 153 (.pointer (some ⟨sb, 0, none⟩))) 256) := by
  obtain ⟨cur, hcu, _⟩ := h.ex
  refine (diDrop_any h hs b).mono ?_
  rintro e w' ⟨he, h', hu⟩
  refine ⟨he, ⟨_, .di h' rfl, fun q hq => .inl hq⟩, hu.mono (by simp), ?_⟩
  rw [hnd]
  exact hu.heap hnd (by simp; exact tag_ne hnd hcu (by decide))
/-- Behind the drop and the count. -/
def DropSt (w : World) (nb sb : Nat) (B : List Nat) (L' : KL) (v : Value) (kind : Nat) (wz : World) : Prop := KSort L' ∧ nb ∈ B ∧ ∃ B2, wz.heap[nb]? = some (.cells #[v, .int .i64 (kind : Nat), .int .i64 L'.length] 136) ∧ KShape wz nb sb B2 L' v kind ∧ (∀ q, q ∈ B2 → q ∈ B ∨ w.heap.size ≤ q) ∧ Upd B w wz
theorem DropSt.kend {sb kind : Nat} {v : Value} {wz : World} (h : DropSt w nb sb B L v kind wz) : KEnd w nb B L wz := by
  obtain ⟨h1, _, B2, h2, h3, h4, h5⟩ := h
  exact ⟨⟨B2, ⟨h1, sb, v, kind, h2, h3⟩, h4⟩, h5⟩
theorem KShape.below {sb kind : Nat} {v : Value} (h2 : KShape w nb sb B L v kind) (hb : Below w.heap.size w w') : KShape w' nb sb B L v kind := by
  cases h2 with
  | so kind hk hl n ka ha kc hc h hB => exact .so kind hk hl n ka ha kc hc (h.below hb) hB
  | ix hl pl kd us h hB => exact .ix hl pl kd us (h.below hb) hB
  | di h hB => exact .di (h.below hb) hB
theorem DropSt.below {sb kind : Nat} {v : Value} {wz wz' : World} (h : DropSt w nb sb B L v kind wz) (hb : Below wz.heap.size wz wz') : DropSt w nb sb B L v kind wz' := by
  obtain ⟨h1, hm, B2, h2, h3, h4, h5⟩ := h
  exact ⟨h1, hm, B2, Below.heap' hb h2, h3.below hb, h4, h5.trans (Upd.of_below hb)⟩
theorem DropSt.at {sb kind : Nat} {v : Value} {wz : World} (h : DropSt w nb sb B L v kind wz) : ∃ B2, KAt wz nb B2 L := by
  obtain ⟨h1, _, B2, h2, h3, h4, h5⟩ := h
  exact ⟨B2, h1, sb, v, kind, h2, h3⟩
theorem DropSt.node {sb kind : Nat} {v : Value} {wz : World} (h : DropSt w nb sb B L v kind wz) : wz.heap[nb]? = some (.cells #[v, .int .i64 (kind : Nat), .int .i64 L.length] 136) := by
  obtain ⟨h1, _, B2, h2, h3, h4, h5⟩ := h
  exact h2
/-- A become behind it. -/
theorem DropSt.be {sb kind K : Nat} {v : Value} {wz : World} {e : Ending} (h : DropSt w nb sb B L v kind wz) (hE : BeEnd wz nb L K e w') : e = .returned (.tuple #[]) ∧ Hid (KEnd w nb B L w') := by
  obtain ⟨h1, hm, B2, h2, h3, h4, h5⟩ := h
  obtain ⟨he, ⟨B', sb', v', q1, q2, q3⟩, hu⟩ := hE
  refine ⟨he, Lib.hid ⟨⟨B', ⟨h1, sb', v', K, q1, q2⟩, fun q hq => ?_⟩, h5.trans (hu.mono (by simpa using hm))⟩⟩
  rcases q3 q hq with e | e
  · exact .inl (by rw [e]; exact hm)
  · exact .inr (Nat.le_trans h5.size e)
theorem SEnd.st {sb kind : Nat} {v : Value} {e : Ending} {w0 w3 : World} {L' : KL} {k : Int} (hb : Below w.heap.size w w0) (h : SEnd w0 nb sb B L' v kind e w3) (hs : KSort L') (hm : nb ∈ B) (hn : w0.heap[nb]? = some (.cells #[v, .int .i64 (kind : Nat), .int .i64 k] 136)) : DropSt w nb sb B L' v kind (w3.setCell ⟨nb, 2, none⟩ (.int .i64 (L'.length : Nat))) := by
  obtain ⟨_, ⟨B', h1, h2⟩, h3, h4⟩ := h
  rw [hn] at h4
  have hu : Upd [nb] w3 (w3.setCell ⟨nb, 2, none⟩ (.int .i64 (L'.length : Nat))) := (Upd.refl [nb] _).setCell (p := ⟨nb, 2, none⟩) (by simp) _
  refine ⟨hs, hm, B', by rw [heap_self, h4]; rfl, h1.updN h4 hu, fun q hq => ?_, ((Upd.of_below hb).trans h3).trans (hu.mono (by simpa using hm))⟩
  rcases h2 q hq with e | e
  · exact .inl e
  · exact .inr (Nat.le_trans hb.size e)
theorem DropSt.be4 {sb : Nat} {wz : World} (h : DropSt w nb sb B L (.iface 130 (.pointer (some ⟨sb, 0, none⟩))) 16 wz) (hl : L.length ≤ 3) :
    Calls Tryz.prog 72 #[.pointer (some ⟨nb, 0, none⟩), .int .i64 4] wz fun e w' => e = .returned (.tuple #[]) ∧ Hid (KEnd w nb B L w') := by
  obtain ⟨h1, hm, B2, h2, h3, h4, h5⟩ := h
  cases h3 with
  | so _ hk hlk n ka ha kc hc h hB =>
    refine (beKind (kind := 4) (.inl rfl) h2 h (by omega)).mono ?_
    rintro e w' ⟨he, ⟨q1, q2⟩, hu⟩
    exact ⟨he, Lib.hid ⟨⟨_, ⟨h1, _, _, _, q1, q2⟩, fun q hq => h4 q (by rw [hB]; exact hq)⟩, h5.trans (hu.mono (by simpa using hm))⟩⟩
theorem DropSt.keys {sb : Nat} {wz : World} {k : Nat} (h : DropSt w nb sb B L (.iface 130 (.pointer (some ⟨sb, 0, none⟩))) k wz) : ∃ ka kc, wz.cell? ⟨sb, 0, none⟩ = some (.slice ka L.length kc) ∧ sb < wz.heap.size := by
  obtain ⟨h1, hm, B2, h2, h3, h4, h5⟩ := h
  cases h3 with
  | so _ hk hlk n ka ha kc hc h hB => exact ⟨ka, kc, by rw [cell_of_heap h.blk, h.len]; rfl, heap_lt h.blk⟩
set_option maxRecDepth 100000 in
set_option maxHeartbeats 4000000 in
theorem anDrop_any (h : KAt w nb B L) (b : UInt8) :
    Calls Tryz.prog 54 #[.pointer (some ⟨nb, 0, none⟩), .int .u8 b.toNat] w fun e w' => e = .returned (.bool (kget L b).isSome) ∧ KEnd w nb B (kdel L b) w' := by
  have hs := h.ks
  have hl := ks_len hs
  have hmem := h.mem
  have hK := Lib.hid h
  have hG := Lib.hid (anGet_any h b)
  obtain ⟨g, hg⟩ : ∃ g, g = (kget L b).getD (0, 0) := ⟨_, rfl⟩
  obtain ⟨had, hhad⟩ : ∃ f, f = (kget L b).isSome := ⟨_, rfl⟩
  rw [← hg, ← hhad] at hG
  rw [← hhad]
  replace hg := Lib.hid hg
  replace hhad := Lib.hid hhad
  clear h
  go_enter Tryz.func54, Tryz.ntmps54
  go_upto_region 1 with fail
  go_cut [6] (fun v6 wz => v6 = .bool had ∧ Below w.heap.size w wz)
  case first =>
    go_wp2_with fail
    refine hG.out.mono ?_
    clear hG
    rintro e w1 ⟨rfl, hb1⟩
    replace hb1 := Lib.hid hb1
    go_wp2_with fail
    go_meet
    exact ⟨rfl, hb1.out.alloc hb1.out.size _⟩
  case rest =>
    obtain ⟨rfl, hb1⟩ := hcut
    obtain ⟨w1, hw1⟩ : ∃ w1, w1 = wc := ⟨_, rfl⟩
    subst hw1
    cases had with
    | false =>
      have hg : kget L b = none := by
        have := hhad.out
        cases hg : kget L b with
        | none => rfl
        | some g => rw [hg] at this; cases this
      have hfin : Hid (KEnd w nb B (kdel L b) w1) := Lib.hid (by rw [kdel_none hg]; exact ⟨⟨B, hK.out.below hb1, fun q hq => .inl hq⟩, Upd.of_below hb1⟩)
      clear hg hb1 hs
      go_wp2_with fail
      go_ret
      exact ⟨rfl, hfin.out⟩
    | true =>
      have hks := ks_del hs b
      have hlen := kdel_len hs b
      rw [← hhad.out, if_pos rfl] at hlen
      have hpos : 0 < L.length := by
        cases hL : L with
        | nil => rw [hL] at hhad; cases hhad.out
        | cons _ _ => simp
      have hd5 : Below w.heap.size w w1 := hb1
      obtain ⟨_, sb, v, kind, h1, h2⟩ := hK.out
      have h1d := Below.heap' hd5 h1
      have h11 := Below.heap' hb1 h1
      have c0 : w1.cell? ⟨nb, 0, none⟩ = some v := by rw [cell_of_heap h11]; rfl
      have hq := heap_lt h11
      have hwr : IntKind.i64.wrap ((L.length : Int) - 1) = ((kdel L b).length : Int) := by
        rw [hlen, IntWalk.i64_in _ (by omega)]
        omega
      have hle2 := h2.le hs
      obtain ⟨m, hm⟩ : ∃ m, m = L.length := ⟨_, rfl⟩
      rw [← hm] at hwr hpos
      replace hm := Lib.hid hm
      replace hlen := Lib.hid hlen
      cases h2 with
      | so _ hk hlk n ka ha kc hc h hB =>
        have hcs := dropK_so hk (h.below hd5) hs h1d b hlk
        rw [← hB] at hcs
        have hst : Hid (∀ W, SEnd w1 nb sb B (kdel L b) (.iface 130 (.pointer (some ⟨sb, 0, none⟩))) kind (.returned (.tuple #[])) W → W.heap[nb]? = some (.cells #[.iface 130 (.pointer (some ⟨sb, 0, none⟩)), .int .i64 ((kind : Nat) : Int), .int .i64 m] 136) ∧ Hid (DropSt w nb sb B (kdel L b) (.iface 130 (.pointer (some ⟨sb, 0, none⟩))) kind (W.setCell ⟨nb, 2, none⟩ (.int .i64 ((kdel L b).length : Nat))))) := Lib.hid fun W hW => ⟨by rw [hW.2.2.2, hm.out]; exact h1d, Lib.hid (hW.st hd5 hks hmem h1d)⟩
        have hta1 := Lib.hid (fun W : World => (by rfl : Sem.run Tryz.prog (Instr.typeAssert (.iface 130 (.pointer (some ⟨sb, 0, none⟩))) 134 130 true) W = Result.ok (.tuple #[.pointer (some ⟨sb, 0, none⟩), .bool true]) W))
        have hta2 := Lib.hid (fun W : World => (by rfl : Sem.run Tryz.prog (Instr.typeAssert (.iface 130 (.pointer (some ⟨sb, 0, none⟩))) 134 152 true) W = Result.ok (.tuple #[.pointer none, .bool false]) W))
        have hta3 := Lib.hid (fun W : World => (by rfl : Sem.run Tryz.prog (Instr.typeAssert (.iface 130 (.pointer (some ⟨sb, 0, none⟩))) 134 153 true) W = Result.ok (.tuple #[.pointer none, .bool false]) W))
        replace hcs := Lib.hid hcs
        have hle3 := Lib.hid hle2
        clear h h1 h1d h11 hB hs hb1 hks hd5 hle2 hl
        obtain ⟨len, hlen2⟩ : ∃ len, len = (kdel L b).length := ⟨_, rfl⟩
        rw [← hlen2] at hwr hst hlen
        replace hlen2 := Lib.hid hlen2
        go_wp2_with fail
        refine hcs.out.mono ?_
        clear hcs
        rintro z w3 hS
        obtain rfl := hS.1
        replace hS := Lib.hid hS
        all_goals
          obtain ⟨h3, hDS⟩ := hst.out _ hS.out
          have c2 : w3.cell? ⟨nb, 2, none⟩ = some (.int .i64 m) := by rw [cell_of_heap h3]; rfl
          have f2 := frozen_of_heap h3 2
          have hq3 := heap_lt h3
          have c0 : w3.cell? ⟨nb, 0, none⟩ = some (.iface 130 (.pointer (some ⟨sb, 0, none⟩))) := by rw [cell_of_heap h3]; rfl
          clear hq h3
          go_upto_region 7 with fail
          obtain ⟨w4, hw4⟩ : ∃ w4, w4 = w3.setCell ⟨nb, 2, none⟩ (.int .i64 (len : Nat)) := ⟨_, rfl⟩
          rw [← hw4] at hDS ⊢
          clear c0 c2 f2 hq3 hst hS
          replace hw4 := Lib.hid hw4
          rcases hk with rfl | rfl
          · have hend := Lib.hid hDS.out.kend
            obtain ⟨_, _, B2, e1, e2, _, _⟩ := hDS.out
            have c1 : w4.cell? ⟨nb, 1, none⟩ = some (.int .i64 4) := by rw [cell_of_heap e1]; rfl
            have hq := heap_lt e1
            clear e1 e2
            go_wp2_with fail
            rw [hta1.out]
            go_wp2_with fail
            go_ret
            exact ⟨rfl, hend.out⟩
          · obtain ⟨ka2, kc2, d0, hq2⟩ := hDS.out.keys
            rw [← hlen2.out] at d0
            obtain ⟨_, _, B2, e1, e2, _, _⟩ := hDS.out
            have c1 : w4.cell? ⟨nb, 1, none⟩ = some (.int .i64 16) := by rw [cell_of_heap e1]; rfl
            have hq := heap_lt e1
            by_cases hsm : len ≤ 3
            · have hbe := Lib.hid (hDS.out.be4 (by rw [← hlen2.out]; exact hsm))
              have hA1 : (len : Int) ≤ 3 := by omega
              clear e1 e2
              go_wp2_with fail
              rw [hta1.out]
              go_wp2_with fail
              refine hbe.out.mono ?_
              rintro e w5 ⟨rfl, hE⟩
              go_wp2_with fail
              go_ret
              exact ⟨rfl, hE.out⟩
            · have hend := Lib.hid hDS.out.kend
              have hA1 : ¬ (len : Int) ≤ 3 := by omega
              clear e1 e2
              go_wp2_with fail
              rw [hta1.out]
              go_wp2_with fail
              go_ret
              exact ⟨rfl, hend.out⟩
      | ix hlk pl kd us h hB =>
        have hcs := dropK_ix (h.below hd5) h1d b hlk
        rw [← hB] at hcs
        have hst : Hid (∀ W, SEnd w1 nb sb B (kdel L b) (.iface 152 (.pointer (some ⟨sb, 0, none⟩))) 48 (.returned (.tuple #[])) W → W.heap[nb]? = some (.cells #[.iface 152 (.pointer (some ⟨sb, 0, none⟩)), .int .i64 ((48 : Nat) : Int), .int .i64 m] 136) ∧ Hid (DropSt w nb sb B (kdel L b) (.iface 152 (.pointer (some ⟨sb, 0, none⟩))) 48 (W.setCell ⟨nb, 2, none⟩ (.int .i64 ((kdel L b).length : Nat))))) := Lib.hid fun W hW => ⟨by rw [hW.2.2.2, hm.out]; exact h1d, Lib.hid (hW.st hd5 hks hmem h1d)⟩
        have hta1 := Lib.hid (fun W : World => (by rfl : Sem.run Tryz.prog (Instr.typeAssert (.iface 152 (.pointer (some ⟨sb, 0, none⟩))) 134 130 true) W = Result.ok (.tuple #[.pointer none, .bool false]) W))
        have hta2 := Lib.hid (fun W : World => (by rfl : Sem.run Tryz.prog (Instr.typeAssert (.iface 152 (.pointer (some ⟨sb, 0, none⟩))) 134 152 true) W = Result.ok (.tuple #[.pointer (some ⟨sb, 0, none⟩), .bool true]) W))
        have hta3 := Lib.hid (fun W : World => (by rfl : Sem.run Tryz.prog (Instr.typeAssert (.iface 152 (.pointer (some ⟨sb, 0, none⟩))) 134 153 true) W = Result.ok (.tuple #[.pointer none, .bool false]) W))
        replace hcs := Lib.hid hcs
        have hle3 := Lib.hid hle2
        clear h h1 h1d h11 hB hs hb1 hks hd5 hle2 hl
        obtain ⟨len, hlen2⟩ : ∃ len, len = (kdel L b).length := ⟨_, rfl⟩
        rw [← hlen2] at hwr hst hlen
        replace hlen2 := Lib.hid hlen2
        go_wp2_with fail
        refine hcs.out.mono ?_
        clear hcs
        rintro z w3 hS
        obtain rfl := hS.1
        replace hS := Lib.hid hS
        all_goals
          obtain ⟨h3, hDS⟩ := hst.out _ hS.out
          have c2 : w3.cell? ⟨nb, 2, none⟩ = some (.int .i64 m) := by rw [cell_of_heap h3]; rfl
          have f2 := frozen_of_heap h3 2
          have hq3 := heap_lt h3
          have c0 : w3.cell? ⟨nb, 0, none⟩ = some (.iface 152 (.pointer (some ⟨sb, 0, none⟩))) := by rw [cell_of_heap h3]; rfl
          clear hq h3
          go_upto_region 7 with fail
          obtain ⟨w4, hw4⟩ : ∃ w4, w4 = w3.setCell ⟨nb, 2, none⟩ (.int .i64 (len : Nat)) := ⟨_, rfl⟩
          rw [← hw4] at hDS ⊢
          clear c0 c2 f2 hq3 hst hS
          replace hw4 := Lib.hid hw4
          obtain ⟨_, _, B2, e1, e2, _, _⟩ := hDS.out
          have c2 : w4.cell? ⟨nb, 2, none⟩ = some (.int .i64 len) := by rw [cell_of_heap e1, hlen2.out]; rfl
          have hq := heap_lt e1
          by_cases hsm : len ≤ 12
          · have hbe := fun W (hW : Below w4.heap.size w4 W) => (be16 (va0 := ⟨sb, 0, none⟩) (kd0 := 48) (hDS.out.below hW).at.choose_spec (by have := hlen2.out; omega) (hDS.out.below hW).node).mono fun e w' hE => (hDS.out.below hW).be hE
            replace hbe := Lib.hid fun W hW => hbe W hW
            have hA1 : (len : Int) ≤ 12 := by omega
            clear e1 e2
            go_wp2_with fail
            rw [hta1.out]
            go_wp2_with fail
            rw [hta2.out]
            go_wp2_with fail
            refine (hbe.out _ (Below.refl _ _)).mono ?_
            rintro e w5 ⟨rfl, hE⟩
            go_wp2_with fail
            go_ret
            exact ⟨rfl, hE.out⟩
          · have hend := Lib.hid hDS.out.kend
            have hA1 : ¬ (len : Int) ≤ 12 := by omega
            clear e1 e2
            go_wp2_with fail
            rw [hta1.out]
            go_wp2_with fail
            rw [hta2.out]
            go_wp2_with fail
            go_ret
            exact ⟨rfl, hend.out⟩
      | di h hB =>
        have hcs := dropK_di (h.below hd5) hs h1d b
        rw [← hB] at hcs
        have hst : Hid (∀ W, SEnd w1 nb sb B (kdel L b) (.iface 153 (.pointer (some ⟨sb, 0, none⟩))) 256 (.returned (.tuple #[])) W → W.heap[nb]? = some (.cells #[.iface 153 (.pointer (some ⟨sb, 0, none⟩)), .int .i64 ((256 : Nat) : Int), .int .i64 m] 136) ∧ Hid (DropSt w nb sb B (kdel L b) (.iface 153 (.pointer (some ⟨sb, 0, none⟩))) 256 (W.setCell ⟨nb, 2, none⟩ (.int .i64 ((kdel L b).length : Nat))))) := Lib.hid fun W hW => ⟨by rw [hW.2.2.2, hm.out]; exact h1d, Lib.hid (hW.st hd5 hks hmem h1d)⟩
        have hta1 := Lib.hid (fun W : World => (by rfl : Sem.run Tryz.prog (Instr.typeAssert (.iface 153 (.pointer (some ⟨sb, 0, none⟩))) 134 130 true) W = Result.ok (.tuple #[.pointer none, .bool false]) W))
        have hta2 := Lib.hid (fun W : World => (by rfl : Sem.run Tryz.prog (Instr.typeAssert (.iface 153 (.pointer (some ⟨sb, 0, none⟩))) 134 152 true) W = Result.ok (.tuple #[.pointer none, .bool false]) W))
        have hta3 := Lib.hid (fun W : World => (by rfl : Sem.run Tryz.prog (Instr.typeAssert (.iface 153 (.pointer (some ⟨sb, 0, none⟩))) 134 153 true) W = Result.ok (.tuple #[.pointer (some ⟨sb, 0, none⟩), .bool true]) W))
        replace hcs := Lib.hid hcs
        have hle3 := Lib.hid hle2
        clear h h1 h1d h11 hB hs hb1 hks hd5 hle2 hl
        obtain ⟨len, hlen2⟩ : ∃ len, len = (kdel L b).length := ⟨_, rfl⟩
        rw [← hlen2] at hwr hst hlen
        replace hlen2 := Lib.hid hlen2
        go_wp2_with fail
        refine hcs.out.mono ?_
        clear hcs
        rintro z w3 hS
        obtain rfl := hS.1
        replace hS := Lib.hid hS
        all_goals
          obtain ⟨h3, hDS⟩ := hst.out _ hS.out
          have c2 : w3.cell? ⟨nb, 2, none⟩ = some (.int .i64 m) := by rw [cell_of_heap h3]; rfl
          have f2 := frozen_of_heap h3 2
          have hq3 := heap_lt h3
          have c0 : w3.cell? ⟨nb, 0, none⟩ = some (.iface 153 (.pointer (some ⟨sb, 0, none⟩))) := by rw [cell_of_heap h3]; rfl
          clear hq h3
          go_upto_region 7 with fail
          obtain ⟨w4, hw4⟩ : ∃ w4, w4 = w3.setCell ⟨nb, 2, none⟩ (.int .i64 (len : Nat)) := ⟨_, rfl⟩
          rw [← hw4] at hDS ⊢
          clear c0 c2 f2 hq3 hst hS
          replace hw4 := Lib.hid hw4
          obtain ⟨_, _, B2, e1, e2, _, _⟩ := hDS.out
          have c2 : w4.cell? ⟨nb, 2, none⟩ = some (.int .i64 len) := by rw [cell_of_heap e1, hlen2.out]; rfl
          have hq := heap_lt e1
          by_cases hsm : len ≤ 36
          · have hbe := fun W (hW : Below w4.heap.size w4 W) => (be48 (hDS.out.below hW).at.choose_spec (by have := hlen2.out; omega)).mono fun e w' hE => (hDS.out.below hW).be hE
            replace hbe := Lib.hid fun W hW => hbe W hW
            have hA1 : (len : Int) ≤ 36 := by omega
            clear e1 e2
            go_wp2_with fail
            rw [hta1.out]
            go_wp2_with fail
            rw [hta2.out]
            go_wp2_with fail
            rw [hta3.out]
            go_wp2_with fail
            refine (hbe.out _ (Below.refl _ _)).mono ?_
            rintro e w5 ⟨rfl, hE⟩
            go_wp2_with fail
            go_ret
            exact ⟨rfl, hE.out⟩
          · have hend := Lib.hid hDS.out.kend
            have hA1 : ¬ (len : Int) ≤ 36 := by omega
            clear e1 e2
            go_wp2_with fail
            rw [hta1.out]
            go_wp2_with fail
            rw [hta2.out]
            go_wp2_with fail
            rw [hta3.out]
            go_wp2_with fail
            go_ret
            exact ⟨rfl, hend.out⟩
end
end Go.Proofs.YtmhlokomlngdmaaGreat
