/- The contract of blink's New. -/
import Derived.Test.YtlhobbfncjjeaaaBkCheck
import Derived.Test.YtlhobbfncjjeaaaBkPutX
namespace Go.Proofs.Ytlhobbfncjjeaaa
open Go.RowKit
/-- A leaf without keys. -/
def leaf0 : BN := ⟨true, [], [], [], s0, false, (0, 0)⟩
theorem leaf0_at (w : World) : NodeAt w leaf0 none none none 0 0 0 := ⟨⟨Nat.zero_le _, Nat.zero_le _, .inl ⟨rfl, rfl⟩⟩, ⟨Nat.zero_le _, Nat.zero_le _, .inl ⟨rfl, rfl⟩⟩, ⟨Nat.zero_le _, Nat.zero_le _, .inl ⟨rfl, rfl⟩⟩⟩
theorem tower0 (r : Hd) : Tower [[(r, leaf0)]] := by
  refine ⟨fun j R hR => ?_, fun j S R hS hR => ?_, ⟨_, rfl⟩⟩
  · cases j with
    | zero =>
      simp at hR
      subst hR
      refine ⟨⟨⟨Rises.nil, by simp [leaf0], by simp [leaf0], fun _ => rfl, fun _ => ⟨rfl, rfl⟩, fun e => by simp [leaf0] at e, fun e => by simp [leaf0] at e⟩, rfl, ?_⟩, fun x hx => ?_⟩
      · simp [leaf0]
      · simp at hx; subst hx; rfl
    | succ j => simp at hR
  · simp at hR
theorem thick0 (r : Hd) : Thick [[(r, leaf0)]] := fun j R hR hj x hx => by
  cases j with
  | zero => omega
  | succ j => simp at hR
theorem slim0 (r : Hd) : Slim [[(r, leaf0)]] := fun j R hR x hx => by
  cases j with
  | zero => simp at hR; subst hR; simp at hx; subst hx; simp [leaf0]
  | succ j => simp at hR
section
variable {w0 w : World} {ρ : Nat → Nat} {P : Nat × Nat × Nat} {gens : List Int} {free : List Bool} {D : List ArD} {rt i t : Nat} {d : ArD} {Ls : List Lev} {r : Hd} {size : Nat}
def NewEnd (w0 w : World) (ρ : Nat → Nat) (P : Nat × Nat × Nat) (gens : List Int) (free : List Bool) (D : List ArD) (rt : Nat) (e : Ending) (w' : World) : Prop :=
  ∃ t ρ' d r, e = .returned (.tuple #[.pointer (some ⟨t, 0, none⟩), .int .i64 0]) ∧ BW w0 w' ρ' P gens (free.set (free.idxOf true) false) (D ++ [d]) ∧ Tr w' ρ' P (D ++ [d]) rt D.length t d [[(r, leaf0)]] r 0 ∧ RU [1, 2, 3, 12 + 3 * D.length] w w' ρ ρ' ∧ ∀ j dj e x, j ≠ D.length → D[j]? = some dj → e ∈ dj.A.L → x ∈ d.A.L → e.slot ≠ x.slot
theorem bkNew_nil (w : World) : Calls Try.prog 11 #[.pointer none] w fun e w' => e = .returned (.tuple #[.pointer none, .int .i64 2]) ∧ w = w' := by
  go_enter Try.func11, Try.ntmps11
  go_wp2_with fail
  go_ret2
  exact ⟨rfl, rfl⟩
set_option maxRecDepth 100000 in
set_option maxHeartbeats 2000000 in
theorem bkNew_some (hB : BW w0 w ρ P gens free D) (hfr : true ∈ free) (hrt : 4 ≤ rt ∧ rt ≤ 5) : Calls Try.prog 11 #[.pointer (some ⟨P.1, 0, none⟩)] w (NewEnd w0 w ρ P gens free D rt) := by
  have hNw := Lib.hid (ANode.gNew (some ⟨P.1, 0, none⟩) [] w)
  go_enter Try.func11, Try.ntmps11
  go_wp2_with fail
  refine hNw.out.mono ?_
  clear hNw
  rintro z w1 ⟨rfl, hb1, hs1, hA1⟩
  obtain ⟨hAr, hU1⟩ := hB.ars.new hB.ro hb1 hs1 (ta := 125) (tc := 130) hA1
  have hB1 : BW w0 w1 _ P gens free _ := ⟨hB.ro.step hU1 (by simp), hAr⟩
  obtain ⟨ρ1, hρ1⟩ : ∃ ρ1, ρ1 = mark (mark ρ (w.heap.size + 1) (11 + 3 * D.length)) w.heap.size (12 + 3 * D.length) := ⟨_, rfl⟩
  rw [← hρ1] at hU1 hB1
  clear hAr hρ1
  replace hs1 := Lib.hid hs1
  obtain ⟨W1, hW1⟩ : ∃ W1, W1 = w1.alloc (.cells #[.pointer (some ⟨P.1, 0, none⟩), .pointer (some ⟨w.heap.size + 1, 0, none⟩), .int .i64 0, .int .u64 0, .int .i64 0, .bool false] 72) := ⟨_, rfl⟩
  have hbA : Below w1.heap.size w1 W1 := by rw [hW1]; exact (Below.refl _ _).alloc (Nat.le_refl _) _
  have htb : W1.heap[w1.heap.size]? = some (.cells #[.pointer (some ⟨P.1, 0, none⟩), .pointer (some ⟨w.heap.size + 1, 0, none⟩), .int .i64 0, .int .u64 0, .int .i64 0, .bool false] 72) := by rw [hW1]; exact heap_alloc_new _ _
  have hU2 : RU [] w1 W1 ρ1 (mark ρ1 w1.heap.size rt) := (RU.below hB1.ro hbA).mark (Nat.le_refl _) (heap_lt htb)
  have hB2 : BW w0 W1 (mark ρ1 w1.heap.size rt) P gens free (D ++ [⟨125, 130, ⟨w.heap.size + 1, w.heap.size, [], 0⟩⟩]) := ⟨hB1.ro.step hU2 (by simp), hB1.ars.ru hU2 (by simp)⟩
  have hT2 : TF W1 (mark ρ1 w1.heap.size rt) P (D ++ [⟨125, 130, ⟨w.heap.size + 1, w.heap.size, [], 0⟩⟩]) rt D.length w1.heap.size ⟨125, 130, ⟨w.heap.size + 1, w.heap.size, [], 0⟩⟩ [] (0, 0) 0 :=
    ⟨by simp, rfl, rfl, hrt, mark_self, htb, (fun x hx => by cases hx), List.nodup_nil, rfl⟩
  have hAl := Lib.hid (TF.alloc hB2 hT2 leaf0 none none none 0 0 0 (leaf0_at _) ⟨fun hn => absurd rfl hn, fun hn => absurd rfl hn, fun hn => absurd rfl hn⟩ hfr)
  have hU12 := Lib.hid (hU1.trans hU2)
  replace htb := Lib.hid htb
  clear hB1 hB2 hT2 hU1 hU2 hA1 hB
  go_wp2_with fail
  rw [← hW1]
  have htl := heap_lt htb.out
  clear hW1
  refine hAl.out.mono ?_
  clear hAl
  rintro z w3 ⟨rfl, ρ3, D3, d3, hB3, hT3, hU3, hda, hsz, _, _, hsd⟩
  obtain ⟨sl, hsl⟩ : ∃ sl : Nat, sl = free.idxOf true := ⟨_, rfl⟩
  obtain ⟨gn, hgn⟩ : ∃ gn : Int, gn = gens.getD sl 0 := ⟨_, rfl⟩
  rw [← hsl, ← hgn] at hT3 ⊢
  have hbA3 : Below w3.heap.size w3 (w3.alloc (.cells #[.int .i64 sl, .int .u64 gn] 70)) := (Below.refl _ _).alloc (Nat.le_refl _) _
  have hB4 := hB3.below hbA3
  have hT4 := hT3.ru (RU.below (rs := []) hB3.ro hbA3) (by simp) (by simp)
  have hU4 := hU3.trans ((RU.below (rs := []) hB3.ro hbA3).mono (by simp))
  have hbx := heap_alloc_new w3 (.cells #[.int .i64 sl, .int .u64 gn] 70)
  replace hsl := Lib.hid hsl
  replace hgn := Lib.hid hgn
  have htl3 : w1.heap.size < w3.heap.size := heap_lt hT3.blk
  clear hbA3 hB3 hT3 hU3
  go_upto_region 5 with fail
  generalize w3.alloc (.cells #[.int .i64 sl, .int .u64 gn] 70) = W4 at *
  have y1 : W4.cell? ⟨w3.heap.size, 0, none⟩ = some (.int .i64 sl) := by rw [cell_of_heap hbx]; rfl
  have y2 : W4.cell? ⟨w3.heap.size, 1, none⟩ = some (.int .u64 gn) := by rw [cell_of_heap hbx]; rfl
  obtain ⟨_, _, j2, j3, _, _, hqt⟩ := hT4.cells
  have ft2 : W4.frozen? ⟨w1.heap.size, 2, none⟩ = false := frozen_of_heap hT4.blk _
  have ft3 : W4.frozen? ⟨w1.heap.size, 3, none⟩ = false := frozen_of_heap hT4.blk _
  have hxl := heap_lt hbx
  have hfin : Hid (NewEnd w0 w ρ P gens free D rt (.returned (.tuple #[.pointer (some ⟨w1.heap.size, 0, none⟩), .int .i64 0])) ((W4.setCell ⟨w1.heap.size, 2, none⟩ (.int .i64 sl)).setCell ⟨w1.heap.size, 3, none⟩ (.int .u64 gn))) := Lib.hid (by
    obtain ⟨hB5, hT5, hU5⟩ := hT4.setRoot hB4 ((sl : Int), gn)
    have hD : D3 = D ++ [d3] := by
      refine List.ext_getElem? fun j => ?_
      by_cases hj : j = D.length
      · subst hj
        rw [hT5.hd]; simp
      · rw [hsd.2.1 j hj]
        rcases Nat.lt_or_ge j D.length with h1 | h1
        · rw [List.getElem?_append_left h1, List.getElem?_append_left h1]
        · rw [List.getElem?_eq_none (by simp; omega), List.getElem?_eq_none (by simp; omega)]
    have hrm : ∀ r, r ∈ [rt] → r ∉ [1, 2, 3, 12 + 3 * D.length] := fun r hr => by simp at hr; subst hr; simp; omega
    refine ⟨w1.heap.size, ρ3, d3, ((sl : Int), gn), rfl, ?_, ?_, ?_, fun j dj e x hj hd he hx => ?_⟩
    rotate_left 3
    · rcases hsd.2.2 d3 x hT5.hd hx with ⟨d0, e0, z1, z2, _⟩ | z
      · simp at z1
        subst z1
        cases z2
      · exact z j dj e hj (by rw [List.getElem?_append_left (List.getElem?_eq_some_iff.1 hd).1]; exact hd) he
    · rw [← hD]; exact hB5
    · rw [← hD]
      exact hT5.tr (Ls := [[(((sl : Int), gn), leaf0)]]) (List.Perm.refl _) ⟨leaf0, rfl⟩ (tower0 _) (thick0 _)
    · have hUa := (hU12.out.mono (rs' := [1, 2, 3, 12 + 3 * D.length]) (by simp)).trans hU4
      refine ⟨hU5.os.trans hUa.os, hU5.tape.trans hUa.tape, hU5.output.trans hUa.output, Nat.le_trans hUa.size hU5.size, fun k hk hn => ?_, fun k hk => (hU5.role k (Nat.lt_of_lt_of_le hk hUa.size)).trans (hUa.role k hk), hU5.far⟩
      have h1 : k ≠ w1.heap.size := by have := hb1.size; omega
      rw [← hUa.block k hk hn]
      exact ((((Upd.refl [w1.heap.size] W4).setCell (p := ⟨w1.heap.size, 2, none⟩) (by simp) _).setCell (p := ⟨w1.heap.size, 3, none⟩) (by simp) _).block k (Nat.lt_of_lt_of_le hk hUa.size) (by simpa using h1)))
  replace hbx := Lib.hid hbx
  replace hT4 := Lib.hid hT4
  replace hB4 := Lib.hid hB4
  go_wp2_with fail
  go_ret2
  exact hfin.out
end
end Go.Proofs.Ytlhobbfncjjeaaa
