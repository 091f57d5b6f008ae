/- A node that is built in a block of its own, beside others; no function in sight. The contract of a node's Add. -/
import Derived.Test.YtlhobbfncjjeaaaBkPut
namespace Go.Proofs.Ytlhobbfncjjeaaa
open Go.RowKit
structure PT (w0 w : World) (R : List (Nat × Obj)) (T : Nat) (n2 : BN) (qka2 qva2 qha2 : Option Addr) (qkc2 qvc2 qhc2 : Nat) : Prop where
  bel : Below w0.heap.size w0 w
  blk : ∀ r, r ∈ R → w.heap[r.1]? = some r.2
  new : ∀ r, r ∈ R → w0.heap.size ≤ r.1 ∧ r.1 ≠ T
  bo : w.heap[T]? = some (.cells #[.bool n2.leaf, .slice qka2 n2.keys.length qkc2, .slice qva2 n2.vals.length qvc2, .slice qha2 n2.kids.length qhc2, .string n2.high, .bool n2.bnd, .int .i64 n2.next.1, .int .u64 n2.next.2] 89)
  newT : w0.heap.size ≤ T
  own : OwnNode w0.heap.size w n2 qka2 qva2 qha2 qkc2 qvc2 qhc2
  sep : ∀ b, ((Value.slice qka2 n2.keys.length qkc2).ownBlock = some b ∨ (Value.slice qva2 n2.vals.length qvc2).ownBlock = some b ∨ (Value.slice qha2 n2.kids.length qhc2).ownBlock = some b) → b ≠ T ∧ ∀ r, r ∈ R → b ≠ r.1
section
variable {w0 w w' : World} {R : List (Nat × Obj)} {T : Nat} {n2 : BN} {qka2 qva2 qha2 : Option Addr} {qkc2 qvc2 qhc2 : Nat}
theorem PT.below (h : PT w0 w R T n2 qka2 qva2 qha2 qkc2 qvc2 qhc2) (hb : Below w.heap.size w w') : PT w0 w' R T n2 qka2 qva2 qha2 qkc2 qvc2 qhc2 :=
  ⟨h.bel.trans (hb.mono h.bel.size), fun r hr => Below.heap' hb (h.blk r hr), h.new, Below.heap' hb h.bo, h.newT, h.own.below n2 qka2 qva2 qha2 qkc2 qvc2 qhc2 hb, h.sep⟩
/-- New keys. -/
theorem PT.newKeys (h : PT w0 w R T n2 qka2 qva2 qha2 qkc2 qvc2 qhc2) {W w5 : World} (hW : Below w.heap.size w W) {a : Option Addr} {c : Nat} {L : List Str} (hr : Row w0.heap.size 9 1 scell w5 (.slice a L.length c) L)
    (hu : Upd (Value.slice qka2 n2.keys.length qkc2).ownBlock.toList W w5) (hob : (Value.slice a L.length c).ownBlock = (Value.slice qka2 n2.keys.length qkc2).ownBlock ∨ (Value.slice a L.length c).ownBlock = some W.heap.size) :
    w5.heap[T]? = some (.cells #[.bool n2.leaf, .slice qka2 n2.keys.length qkc2, .slice qva2 n2.vals.length qvc2, .slice qha2 n2.kids.length qhc2, .string n2.high, .bool n2.bnd, .int .i64 n2.next.1, .int .u64 n2.next.2] 89) ∧ (∀ r, r ∈ R → w5.heap[r.1]? = some r.2) ∧ T < w5.heap.size ∧
      PT w0 (w5.setCell ⟨T, 1, none⟩ (.slice a L.length c)) R T { n2 with keys := L } a qva2 qha2 c qvc2 qhc2 := by
  have h1 := h.below hW
  have hs : ∀ b, b ∈ (Value.slice qka2 n2.keys.length qkc2).ownBlock.toList → w0.heap.size ≤ b ∧ b ≠ T ∧ ∀ r, r ∈ R → b ≠ r.1 := fun b hb => ⟨(h.own.ky.lt b (mem_own hb)).1, h.sep b (.inl (mem_own hb))⟩
  have hblk : ∀ r, r ∈ R → w5.heap[r.1]? = some r.2 := fun r hr => hu.heap (h1.blk r hr) (fun hh => (hs _ hh).2.2 r hr rfl)
  have hbo := hu.heap h1.bo (fun hh => (hs _ hh).2.1 rfl)
  have hv : Upd [T] w5 (w5.setCell ⟨T, 1, none⟩ (.slice a L.length c)) := (Upd.refl _ _).setCell (by simp) _
  have hB : Below w0.heap.size w0 w5 := h1.bel.trans (hu.below h1.bel.size (fun b hb => (hs _ hb).1))
  have hnew : ∀ b, (Value.slice a L.length c).ownBlock = some b → (Value.slice qka2 n2.keys.length qkc2).ownBlock = some b ∨ b = W.heap.size := fun b hb => by
    rcases hob with e | e
    · exact .inl (by rw [← e]; exact hb)
    · rw [e] at hb; injection hb with hb; exact .inr hb.symm
  have hTW : T < W.heap.size := heap_lt h1.bo
  have hRW : ∀ r, r ∈ R → r.1 < W.heap.size := fun r hr => heap_lt (h1.blk r hr)
  have hsn : ∀ b, (Value.slice a L.length c).ownBlock = some b → b ≠ T ∧ ∀ r, r ∈ R → b ≠ r.1 := fun b hb => by
    rcases hnew b hb with h2 | rfl
    · exact h.sep b (.inl h2)
    · exact ⟨by omega, fun r hr => by have := hRW r hr; omega⟩
  have hk := h1.own
  have hy : Row w0.heap.size 9 1 scell (w5.setCell ⟨T, 1, none⟩ (.slice a L.length c)) (.slice a L.length c) L := hr.upd hv (fun b hb hh => by simp at hh; exact (hsn b hb).1 hh)
  refine ⟨hbo, hblk, heap_lt hbo, hB.trans (hv.below hB.size (by simp; exact h.newT)), fun r hr => hv.heap (hblk r hr) (by simp; exact (h.new r hr).2), h.new, heap_set_same hbo 1 _, h.newT, ?_, ?_⟩
  · refine ⟨hy, (hk.vl.upd hu (fun b hb hh => hk.kv _ _ (mem_own hh) hb rfl)).upd hv (fun b hb hh => by simp at hh; exact (h.sep b (.inr <| .inl hb)).1 hh), (hk.kd.upd hu (fun b hb hh => hk.kh _ _ (mem_own hh) hb rfl)).upd hv (fun b hb hh => by simp at hh; exact (h.sep b (.inr <| .inr hb)).1 hh), fun x y hx hy => ?_, fun x y hx hy => ?_, hk.vh⟩
    · rcases hnew x hx with h2 | rfl
      · exact hk.kv x y h2 hy
      · have := (hk.vl.lt y hy).2; omega
    · rcases hnew x hx with h2 | rfl
      · exact hk.kh x y h2 hy
      · have := (hk.kd.lt y hy).2; omega
  · rintro b (hb | hb | hb)
    · exact hsn b hb
    · exact h.sep b (.inr <| .inl hb)
    · exact h.sep b (.inr <| .inr hb)
/-- New kids. -/
theorem PT.newKids (h : PT w0 w R T n2 qka2 qva2 qha2 qkc2 qvc2 qhc2) {W w5 : World} (hW : Below w.heap.size w W) {a : Option Addr} {c : Nat} {L : List Hd} (hr : Row w0.heap.size 70 2 hcel w5 (.slice a L.length c) L)
    (hu : Upd (Value.slice qha2 n2.kids.length qhc2).ownBlock.toList W w5) (hob : (Value.slice a L.length c).ownBlock = (Value.slice qha2 n2.kids.length qhc2).ownBlock ∨ (Value.slice a L.length c).ownBlock = some W.heap.size) :
    w5.heap[T]? = some (.cells #[.bool n2.leaf, .slice qka2 n2.keys.length qkc2, .slice qva2 n2.vals.length qvc2, .slice qha2 n2.kids.length qhc2, .string n2.high, .bool n2.bnd, .int .i64 n2.next.1, .int .u64 n2.next.2] 89) ∧ (∀ r, r ∈ R → w5.heap[r.1]? = some r.2) ∧ T < w5.heap.size ∧
      PT w0 (w5.setCell ⟨T, 3, none⟩ (.slice a L.length c)) R T { n2 with kids := L } qka2 qva2 a qkc2 qvc2 c := by
  have h1 := h.below hW
  have hs : ∀ b, b ∈ (Value.slice qha2 n2.kids.length qhc2).ownBlock.toList → w0.heap.size ≤ b ∧ b ≠ T ∧ ∀ r, r ∈ R → b ≠ r.1 := fun b hb => ⟨(h.own.kd.lt b (mem_own hb)).1, h.sep b (.inr <| .inr (mem_own hb))⟩
  have hblk : ∀ r, r ∈ R → w5.heap[r.1]? = some r.2 := fun r hr => hu.heap (h1.blk r hr) (fun hh => (hs _ hh).2.2 r hr rfl)
  have hbo := hu.heap h1.bo (fun hh => (hs _ hh).2.1 rfl)
  have hv : Upd [T] w5 (w5.setCell ⟨T, 3, none⟩ (.slice a L.length c)) := (Upd.refl _ _).setCell (by simp) _
  have hB : Below w0.heap.size w0 w5 := h1.bel.trans (hu.below h1.bel.size (fun b hb => (hs _ hb).1))
  have hnew : ∀ b, (Value.slice a L.length c).ownBlock = some b → (Value.slice qha2 n2.kids.length qhc2).ownBlock = some b ∨ b = W.heap.size := fun b hb => by
    rcases hob with e | e
    · exact .inl (by rw [← e]; exact hb)
    · rw [e] at hb; injection hb with hb; exact .inr hb.symm
  have hTW : T < W.heap.size := heap_lt h1.bo
  have hRW : ∀ r, r ∈ R → r.1 < W.heap.size := fun r hr => heap_lt (h1.blk r hr)
  have hsn : ∀ b, (Value.slice a L.length c).ownBlock = some b → b ≠ T ∧ ∀ r, r ∈ R → b ≠ r.1 := fun b hb => by
    rcases hnew b hb with h2 | rfl
    · exact h.sep b (.inr <| .inr h2)
    · exact ⟨by omega, fun r hr => by have := hRW r hr; omega⟩
  have hk := h1.own
  have hy : Row w0.heap.size 70 2 hcel (w5.setCell ⟨T, 3, none⟩ (.slice a L.length c)) (.slice a L.length c) L := hr.upd hv (fun b hb hh => by simp at hh; exact (hsn b hb).1 hh)
  refine ⟨hbo, hblk, heap_lt hbo, hB.trans (hv.below hB.size (by simp; exact h.newT)), fun r hr => hv.heap (hblk r hr) (by simp; exact (h.new r hr).2), h.new, heap_set_same hbo 3 _, h.newT, ?_, ?_⟩
  · refine ⟨(hk.ky.upd hu (fun b hb hh => hk.kh _ _ hb (mem_own hh) rfl)).upd hv (fun b hb hh => by simp at hh; exact (h.sep b (.inl hb)).1 hh), (hk.vl.upd hu (fun b hb hh => hk.vh _ _ hb (mem_own hh) rfl)).upd hv (fun b hb hh => by simp at hh; exact (h.sep b (.inr <| .inl hb)).1 hh), hy, hk.kv, fun x y hx hy => ?_, fun x y hx hy => ?_⟩
    · rcases hnew y hy with h2 | rfl
      · exact hk.kh x y hx h2
      · have := (hk.ky.lt x hx).2; omega
    · rcases hnew y hy with h2 | rfl
      · exact hk.vh x y hx h2
      · have := (hk.vl.lt x hx).2; omega
  · rintro b (hb | hb | hb)
    · exact h.sep b (.inl hb)
    · exact h.sep b (.inr <| .inl hb)
    · exact hsn b hb
end
end Go.Proofs.Ytlhobbfncjjeaaa
namespace Go.Proofs.Ytlhobbfncjjeaaa
open Go.RowKit
def AEnd (n2 : BN) (w : World) (x : Ending) (w' : World) : Prop := ∃ qka2 qva2 qha2 qkc2 qvc2 qhc2, x = .returned (.agg #[.bool n2.leaf, .slice qka2 n2.keys.length qkc2, .slice qva2 n2.vals.length qvc2, .slice qha2 n2.kids.length qhc2, .string n2.high, .bool n2.bnd, .int .i64 n2.next.1, .int .u64 n2.next.2]) ∧ OwnNode w.heap.size w' n2 qka2 qva2 qha2 qkc2 qvc2 qhc2 ∧ Below w.heap.size w w'
theorem heap_three (w : World) (o o' o'' : Obj) : (((w.alloc o).alloc o').alloc o'').heap[w.heap.size]? = some o ∧ (((w.alloc o).alloc o').alloc o'').heap[w.heap.size + 1]? = some o' ∧ (((w.alloc o).alloc o').alloc o'').heap[w.heap.size + 2]? = some o'' := by
  obtain ⟨h1, h2⟩ := heap_two w o o'
  refine ⟨heap_alloc_old _ h1, heap_alloc_old _ h2, ?_⟩
  have := heap_alloc_new ((w.alloc o).alloc o') o''
  simpa using this
theorem below_three (w : World) (o o' o'' : Obj) : Below w.heap.size w (((w.alloc o).alloc o').alloc o'') := (below_two w o o').alloc (by simp; omega) _
set_option maxRecDepth 100000 in
set_option maxHeartbeats 1000000 in
theorem nAdd_ok (n : BN) (qka qva qha : Option Addr) (qkc qvc qhc : Nat) {lo : Str} (key : Str) (h : Hd) (w : World) (ho : NodeOK lo n) (hn : NodeAt w n qka qva qha qkc qvc qhc) (hsm : n.keys.length ≤ 1000) (hl : n.leaf = false) (hc : n.covers key = true) (hno : hasK key n.keys = false) :
    Calls Try.prog 75 #[.agg #[.bool n.leaf, .slice qka n.keys.length qkc, .slice qva n.vals.length qvc, .slice qha n.kids.length qhc, .string n.high, .bool n.bnd, .int .i64 n.next.1, .int .u64 n.next.2], .string key, .agg #[.int .i64 h.1, .int .u64 h.2]] w (AEnd (n.add key h) w) := by
  have hvl := (ho.inn hl).1
  have hkd := (ho.inn hl).2
  have hC := Lib.hid fun W hW => nClone_ok n qka qva qha qkc qvc qhc W (hn.below n qka qva qha qkc qvc qhc hW) ⟨by omega, by rw [hvl]; simp, by omega⟩
  have hR := Lib.hid fun W hW => nRight_ok n qka qva qha qkc qvc qhc W ho (hn.below n qka qva qha qkc qvc qhc hW) hsm
  have hV := Lib.hid fun W => nCovers_any n.leaf qka n.keys.length qkc qva n.vals.length qvc qha n.kids.length qhc n.high n.bnd n.next.1 n.next.2 key W
  rw [show (!n.bnd || slt key n.high) = true from hc] at hV
  have hF := Lib.hid fun W (hW : Below w.heap.size w W) => nFind_any n.leaf qka n.keys.length qkc qva n.vals.length qvc qha n.kids.length qhc n.high n.bnd n.next.1 n.next.2 n.keys key W (hn.1.below hW) rfl
  rw [hno] at hF
  replace hkd := Lib.hid hkd
  replace hvl := Lib.hid hvl
  clear ho hn hc hno
  obtain ⟨m, hm⟩ : ∃ m, m = n.add key h := ⟨_, rfl⟩
  rw [← hm]
  replace hm := Lib.hid hm
  obtain ⟨lf, K, V, H, hi, bd, nx⟩ := n
  simp only at hC hR hV hF hl hkd hvl hsm ⊢
  subst hl
  go_enter Try.func75, Try.ntmps75
  go_wp2_with fail
  obtain ⟨hbx, hbh, hby⟩ := heap_three w (.cells #[.bool false, .slice qka K.length qkc, .slice qva V.length qvc, .slice qha H.length qhc, .string hi, .bool bd, .int .i64 nx.1, .int .u64 nx.2] 89) (.cells #[.int .i64 h.1, .int .u64 h.2] 70) (.cells #[.bool false, .slice none 0 0, .slice none 0 0, .slice none 0 0, .string ⟨#[]⟩, .bool false, .int .i64 0, .int .u64 0] 89)
  have hB := below_three w (.cells #[.bool false, .slice qka K.length qkc, .slice qva V.length qvc, .slice qha H.length qhc, .string hi, .bool bd, .int .i64 nx.1, .int .u64 nx.2] 89) (.cells #[.int .i64 h.1, .int .u64 h.2] 70) (.cells #[.bool false, .slice none 0 0, .slice none 0 0, .slice none 0 0, .string ⟨#[]⟩, .bool false, .int .i64 0, .int .u64 0] 89)
  have hz : (((w.alloc (.cells #[.bool false, .slice qka K.length qkc, .slice qva V.length qvc, .slice qha H.length qhc, .string hi, .bool bd, .int .i64 nx.1, .int .u64 nx.2] 89)).alloc (.cells #[.int .i64 h.1, .int .u64 h.2] 70)).alloc (.cells #[.bool false, .slice none 0 0, .slice none 0 0, .slice none 0 0, .string ⟨#[]⟩, .bool false, .int .i64 0, .int .u64 0] 89)).heap.size = w.heap.size + 3 := by simp
  generalize ((w.alloc (.cells #[.bool false, .slice qka K.length qkc, .slice qva V.length qvc, .slice qha H.length qhc, .string hi, .bool bd, .int .i64 nx.1, .int .u64 nx.2] 89)).alloc (.cells #[.int .i64 h.1, .int .u64 h.2] 70)).alloc (.cells #[.bool false, .slice none 0 0, .slice none 0 0, .slice none 0 0, .string ⟨#[]⟩, .bool false, .int .i64 0, .int .u64 0] 89) = W0 at *
  refine (hC.out _ hB).mono ?_
  clear hC
  rintro e w1 ⟨qka2, qva2, qha2, qkc2, qvc2, qhc2, rfl, hown, hb1⟩
  rw [hz] at hown
  replace hbx := Below.heap' hb1 hbx
  replace hbh := Below.heap' hb1 hbh
  replace hby := Below.heap' hb1 hby
  have hB1 := hB.trans (hb1.mono hB.size)
  have hs1 : w.heap.size + 2 < w1.heap.size := heap_lt hby
  replace hbx := Lib.hid hbx
  replace hbh := Lib.hid hbh
  replace hby := Lib.hid hby
  replace hown := Lib.hid hown
  replace hB1 := Lib.hid hB1
  clear hb1 hB hz
  obtain ⟨c0, c1, c2, c3, c4, c5, c6, c7⟩ := node_cells _ _ _ _ _ _ _ _ _ _ _ _ _ _ hbx.out
  have hq0 : w.heap.size < w1.heap.size := by omega
  go_wp2_with fail
  have hPT : PT w (w1.alloc (.cells #[.bool false, .slice qka2 K.length qkc2, .slice qva2 V.length qvc2, .slice qha2 H.length qhc2, .string hi, .bool bd, .int .i64 nx.1, .int .u64 nx.2] 89)) [(w.heap.size, .cells #[.bool false, .slice qka K.length qkc, .slice qva V.length qvc, .slice qha H.length qhc, .string hi, .bool bd, .int .i64 nx.1, .int .u64 nx.2] 89), (w.heap.size + 1, .cells #[.int .i64 h.1, .int .u64 h.2] 70), (w.heap.size + 1 + 1, .cells #[.bool false, .slice none 0 0, .slice none 0 0, .slice none 0 0, .string ⟨#[]⟩, .bool false, .int .i64 0, .int .u64 0] 89)] w1.heap.size ⟨false, K, V, H, hi, bd, nx⟩ qka2 qva2 qha2 qkc2 qvc2 qhc2 := by
    have hA : Below w1.heap.size w1 (w1.alloc (.cells #[.bool false, .slice qka2 K.length qkc2, .slice qva2 V.length qvc2, .slice qha2 H.length qhc2, .string hi, .bool bd, .int .i64 nx.1, .int .u64 nx.2] 89)) := (Below.refl _ _).alloc (Nat.le_refl _) _
    refine ⟨hB1.out.trans (hA.mono hB1.out.size), fun r hr => ?_, fun r hr => ?_, heap_alloc_new _ _, by omega, (hown.out.below ⟨false, K, V, H, hi, bd, nx⟩ qka2 qva2 qha2 qkc2 qvc2 qhc2 hA).rebase ⟨false, K, V, H, hi, bd, nx⟩ qka2 qva2 qha2 qkc2 qvc2 qhc2 (by omega), fun b hb => ?_⟩
    · simp only [List.mem_cons, List.not_mem_nil, or_false] at hr
      rcases hr with rfl | rfl | rfl
      · exact Below.heap' hA hbx.out
      · exact Below.heap' hA hbh.out
      · exact Below.heap' hA hby.out
    · simp only [List.mem_cons, List.not_mem_nil, or_false] at hr
      rcases hr with rfl | rfl | rfl
      · exact ⟨Nat.le_refl _, by show w.heap.size ≠ _; omega⟩
      · exact ⟨by show _ ≤ w.heap.size + 1; omega, by show w.heap.size + 1 ≠ _; omega⟩
      · exact ⟨by show _ ≤ w.heap.size + 1 + 1; omega, by show w.heap.size + 1 + 1 ≠ _; omega⟩
    · have hbb : w.heap.size + 3 ≤ b ∧ b < w1.heap.size := by
        rcases hb with hb | hb | hb
        · exact hown.out.ky.lt b hb
        · exact hown.out.vl.lt b hb
        · exact hown.out.kd.lt b hb
      refine ⟨by omega, fun r hr => ?_⟩
      simp only [List.mem_cons, List.not_mem_nil, or_false] at hr
      rcases hr with rfl | rfl | rfl
      · show b ≠ w.heap.size; omega
      · show b ≠ w.heap.size + 1; omega
      · show b ≠ w.heap.size + 1 + 1; omega
  generalize w1.alloc (.cells #[.bool false, .slice qka2 K.length qkc2, .slice qva2 V.length qvc2, .slice qha2 H.length qhc2, .string hi, .bool bd, .int .i64 nx.1, .int .u64 nx.2] 89) = W2 at *
  generalize w1.heap.size = T at *
  clear c0 c1 c2 c3 c4 c5 c6 c7 hbx hbh hby hown hB1 hq0
  refine (hF.out _ hPT.bel).mono ?_
  clear hF
  rintro e w3 ⟨rfl, hb3⟩
  have hPT3 := hPT.below hb3
  clear hPT hb3
  have hbx3 := hPT3.blk _ (by simp : (w.heap.size, Obj.cells #[.bool false, .slice qka K.length qkc, .slice qva V.length qvc, .slice qha H.length qhc, .string hi, .bool bd, .int .i64 nx.1, .int .u64 nx.2] 89) ∈ _)
  obtain ⟨c0, c1, c2, c3, c4, c5, c6, c7⟩ := node_cells _ _ _ _ _ _ _ _ _ _ _ _ _ _ hbx3
  have hq3 := heap_lt hbx3
  replace hPT3 := Lib.hid hPT3
  clear hbx3
  go_wp2_with fail
  refine (hR.out _ hPT3.out.bel).mono ?_
  clear hR
  rintro e w4 ⟨rfl, hb4⟩
  have hPT4 := hPT3.out.below hb4
  clear hPT3 hb4 c0 c1 c2 c3 c4 c5 c6 c7 hq3
  have hbx4 := hPT4.blk _ (by simp : (w.heap.size, Obj.cells #[.bool false, .slice qka K.length qkc, .slice qva V.length qvc, .slice qha H.length qhc, .string hi, .bool bd, .int .i64 nx.1, .int .u64 nx.2] 89) ∈ _)
  obtain ⟨c0, c1, c2, c3, c4, c5, c6, c7⟩ := node_cells _ _ _ _ _ _ _ _ _ _ _ _ _ _ hbx4
  have hq4 := heap_lt hbx4
  replace hPT4 := Lib.hid hPT4
  clear hbx4
  go_wp2_with fail
  refine (hV.out _).mono ?_
  clear hV
  rintro e w5 ⟨rfl, hb5⟩
  have hPT5 := hPT4.out.below hb5
  clear hPT4 hb5 c0 c1 c2 c3 c4 c5 c6 c7 hq4
  obtain ⟨d0, d1, d2, d3, d4, d5, d6, d7⟩ := node_cells _ _ _ _ _ _ _ _ _ _ _ _ _ _ hPT5.bo
  have hq5 := heap_lt hPT5.bo
  replace hPT5 := Lib.hid hPT5
  have hm' : m = ⟨false, K.insertIdx (cut key K) key, V, H.insertIdx (cut key K + 1) h, hi, bd, nx⟩ := hm.out
  replace hm' := Lib.hid hm'
  have hcl := cut_le key K
  clear hm
  generalize cut key K = ix at *
  have hixH : ix + 1 ≤ H.length := by rw [hkd.out]; omega
  have hw1 : IntKind.i64.wrap ((ix : Int) + 1) = (ix : Int) + 1 := IntWalk.i64_in _ (by omega)
  go_wp2_with fail
  have hA1 : Below w5.heap.size w5 (w5.alloc (.cells #[.string key] 9)) := (Below.refl _ _).alloc (Nat.le_refl _) _
  have hn1 := heap_alloc_new w5 (.cells #[.string key] 9)
  have hbs := hPT5.out.bel.size
  refine (InStr.insert_any scell w.heap.size qka2 qkc2 K key w5.heap.size _ (hPT5.out.own.ky.below hA1) hn1 (by simp; omega) (by omega) ix hcl (fun b hb => by have := (hPT5.out.own.ky.lt b hb).2; omega)).mono ?_
  rintro e w6 ⟨a1, c1, rfl, hr6, hu6, ho6⟩
  obtain ⟨e1, e2, e3, hPT7⟩ := hPT5.out.newKeys hA1 hr6 hu6 ho6
  clear hPT5 hA1 hn1 hr6 hu6 ho6 d0 d1 d2 d3 d4 d5 d6 d7 hbs hq5
  obtain ⟨d0, d1, d2, d3, d4, d5, d6, d7⟩ := node_cells _ _ _ _ _ _ _ _ _ _ _ _ _ _ e1
  have e4 := e2 _ (by simp : (w.heap.size + 1, Obj.cells #[.int .i64 h.1, .int .u64 h.2] 70) ∈ _)
  have hT1 : T ≠ w.heap.size + 1 := fun hh => (hPT7.new _ (by simp : (w.heap.size + 1, Obj.cells #[.int .i64 h.1, .int .u64 h.2] 70) ∈ _)).2 hh.symm
  have f0 : w6.frozen? ⟨T, 1, none⟩ = false := frozen_of_heap e1 _
  have k0 : w6.cell? ⟨w.heap.size + 1, 0, none⟩ = some (.int .i64 h.1) := by rw [cell_of_heap e4]; rfl
  have k1 : w6.cell? ⟨w.heap.size + 1, 1, none⟩ = some (.int .u64 h.2) := by rw [cell_of_heap e4]; rfl
  have hq6 : w.heap.size + 1 < w6.heap.size := heap_lt e4
  replace hPT7 := Lib.hid hPT7
  replace e1 := Lib.hid e1
  replace e2 := Lib.hid e2
  replace e4 := Lib.hid e4
  go_wp2_with fail
  obtain ⟨w7, hw7⟩ : ∃ w7, w7 = w6.setCell ⟨T, 1, none⟩ (.slice a1 (K.insertIdx ix key).length c1) := ⟨_, rfl⟩
  rw [← hw7]
  rw [← hw7] at hPT7
  have hsz7 : w7.heap.size = w6.heap.size := by rw [hw7]; simp [World.setCell]
  rw [← hsz7]
  have hA1 : Below w7.heap.size w7 (w7.alloc (.cells #[.int .i64 h.1, .int .u64 h.2] 70)) := (Below.refl _ _).alloc (Nat.le_refl _) _
  have hn1 := heap_alloc_new w7 (.cells #[.int .i64 h.1, .int .u64 h.2] 70)
  have hbs := hPT7.out.bel.size
  rw [show (ix : Int) + 1 = ((ix + 1 : Nat) : Int) by omega]
  refine (InHd.insert_any hcel w.heap.size qha2 qhc2 H h w7.heap.size _ (hPT7.out.own.kd.below hA1) hn1 (by simp; omega) (by have := hkd.out; omega) (ix + 1) hixH (fun b hb => by have := (hPT7.out.own.kd.lt b hb).2; omega)).mono ?_
  rintro e w8 ⟨a2, c2, rfl, hr8, hu8, ho8⟩
  obtain ⟨g1, g2, g3, hPT9⟩ := hPT7.out.newKids hA1 hr8 hu8 ho8
  clear hPT7 hA1 hn1 hr8 hu8 ho8 d0 d1 d2 d3 d4 d5 d6 d7 hw7 hsz7 hbs e1 e2 e3 e4 f0 k0 k1 hq6
  obtain ⟨d0, d1, d2, d3, d4, d5, d6, d7⟩ := node_cells _ _ _ _ _ _ _ _ _ _ _ _ _ _ g1
  have g4 := g2 _ (by simp : (w.heap.size + 1 + 1, Obj.cells #[.bool false, .slice none 0 0, .slice none 0 0, .slice none 0 0, .string ⟨#[]⟩, .bool false, .int .i64 0, .int .u64 0] 89) ∈ _)
  obtain ⟨x0, x1, x2, x3, x4, x5, x6, x7⟩ := node_cells false none 0 0 none 0 0 none 0 0 ⟨#[]⟩ false 0 0 g4
  have hT2 : T ≠ w.heap.size + 1 + 1 := fun hh => (hPT9.new _ (by simp : (w.heap.size + 1 + 1, Obj.cells #[.bool false, .slice none 0 0, .slice none 0 0, .slice none 0 0, .string ⟨#[]⟩, .bool false, .int .i64 0, .int .u64 0] 89) ∈ _)).2 hh.symm
  have f0 : w8.frozen? ⟨T, 3, none⟩ = false := frozen_of_heap g1 _
  have y := fun k => frozen_of_heap g4 k
  obtain ⟨y0, y1, y2, y3, y4, y5, y6, y7⟩ := And.intro (y 0) (And.intro (y 1) (And.intro (y 2) (And.intro (y 3) (And.intro (y 4) (And.intro (y 5) (And.intro (y 6) (y 7)))))))
  have hq8 : w.heap.size + 1 + 1 < w8.heap.size := heap_lt g4
  have hsl : T = w.heap.size + 1 + 1 ↔ False := by simp [hT2]
  clear y
  replace hPT9 := Lib.hid hPT9
  replace g1 := Lib.hid g1
  replace g2 := Lib.hid g2
  replace g4 := Lib.hid g4
  go_wp2_with fail
  refine bodyPost_ret (v := .agg #[.bool false, .slice a1 (K.insertIdx ix key).length c1, .slice qva2 V.length qvc2, .slice a2 (H.insertIdx (ix + 1) h).length c2, .string hi, .bool bd, .int .i64 nx.1, .int .u64 nx.2]) (by simp [results, Try.results75, go_sem, x0, x1, x2, x3, x4, x5, x6, x7]) rfl ?_
  have hfin : ∀ W', Upd [w.heap.size + 1 + 1] (w8.setCell ⟨T, 3, none⟩ (.slice a2 (H.insertIdx (ix + 1) h).length c2)) W' → AEnd m w (.returned (.agg #[.bool false, .slice a1 (K.insertIdx ix key).length c1, .slice qva2 V.length qvc2, .slice a2 (H.insertIdx (ix + 1) h).length c2, .string hi, .bool bd, .int .i64 nx.1, .int .u64 nx.2])) W' := fun W' hu => by
    rw [hm'.out]
    have hs2 := hPT9.out.sep
    have hin : (w.heap.size + 1 + 1, Obj.cells #[.bool false, .slice none 0 0, .slice none 0 0, .slice none 0 0, .string ⟨#[]⟩, .bool false, .int .i64 0, .int .u64 0] 89) ∈ [(w.heap.size, Obj.cells #[.bool false, .slice qka K.length qkc, .slice qva V.length qvc, .slice qha H.length qhc, .string hi, .bool bd, .int .i64 nx.1, .int .u64 nx.2] 89), (w.heap.size + 1, Obj.cells #[.int .i64 h.1, .int .u64 h.2] 70), (w.heap.size + 1 + 1, Obj.cells #[.bool false, .slice none 0 0, .slice none 0 0, .slice none 0 0, .string ⟨#[]⟩, .bool false, .int .i64 0, .int .u64 0] 89)] := by simp
    have hB9 := hPT9.out.bel
    refine ⟨a1, qva2, a2, c1, qvc2, c2, rfl, ⟨hPT9.out.own.ky.upd hu (fun b hb hh => (hs2 b (.inl hb)).2 _ hin (by simpa using hh)), hPT9.out.own.vl.upd hu (fun b hb hh => (hs2 b (.inr <| .inl hb)).2 _ hin (by simpa using hh)), hPT9.out.own.kd.upd hu (fun b hb hh => (hs2 b (.inr <| .inr hb)).2 _ hin (by simpa using hh)), hPT9.out.own.kv, hPT9.out.own.kh, hPT9.out.own.vh⟩, hB9.trans (hu.below hB9.size (by simp; omega))⟩
  refine hfin _ ?_
  iterate 8 refine Upd.setCell ?_ (by simp) _
  exact Upd.refl _ _
end Go.Proofs.Ytlhobbfncjjeaaa
