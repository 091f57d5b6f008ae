/- slices.Clone at one type of slices: a new row with the same elements. -/
import Derived.Test.YtlhobbfncjjeaaaRow
import Derived.Lib.SliceRun
import Derived.StillTailTactics
import Derived.Test.YtlhobbfncjjeaaaChecked
import Derived.WalkLawsBesides
import Derived.WalkSpells
import Derived.Outline
import Derived.BigQuiet
import Derived.WalkSmall
import Derived.RegionTactic
namespace Go.Proofs.Ytlhobbfncjjeaaa
open Go.RowKit
namespace ClHd
theorem info : ∃ i0 : TypeInfo, Try.prog.info? 70 = some i0 ∧ i0.zero = some (.agg #[.int .i64 0, .int .u64 0]) ∧ i0.size = 2 ∧ i0.bytes = 16 := info_parts (show (Try.prog.info? 70).map (fun i => (i.zero, i.size, i.bytes)) = some (some (.agg #[.int .i64 0, .int .u64 0]), 2, 16) by kernel_rfl)
def CloneEnd {α : Type} (f : α → List Value) (base : Nat) (L : List α) (w : World) (x : Ending) (w' : World) : Prop :=
  ∃ a c, x = .returned (.slice a L.length c) ∧ Row base 70 2 f w' (.slice a L.length c) L ∧ Below w.heap.size w w' ∧ ∀ b, (Value.slice a L.length c).ownBlock = some b → w.heap.size ≤ b
theorem clone_any {α : Type} (f : α → List Value) (hf : ∀ x, (f x).length = 2) (h1 : ∀ x, ∀ y ∈ f x, y.oneCell' = true) (base : Nat) (a : Option Addr) (c : Nat) (L : List α) (w : World) (h : SrcOf w (.slice a L.length c) L.length 2 (L.flatMap f))
    (hbase : base ≤ w.heap.size) (hlen : L.length ≤ 1000000000) : Calls Try.prog 85 #[.slice a L.length c] w (CloneEnd f base L w) := by
  have hq := fun (w : World) (a : Option Addr) (n c n' c' : Nat) => Lib.run_eql_slice_nil (P := Try.prog) w 76 _ a n c n' c' Try.underlying76
  cases a with
  | none =>
    have h0 : L = [] := by
      rcases h.2.2 with ⟨hh, _⟩ | ⟨ad, c', hh, _⟩
      · injection hh with _ h2
        exact List.length_eq_zero_iff.1 h2
      · cases hh
    subst h0
    have hc : c = 0 := by
      rcases h.2.2 with ⟨hh, _⟩ | ⟨ad, c', hh, _⟩
      · injection hh with _ _ h3
      · cases hh
    subst hc
    clear h
    go_enter Try.func85, Try.ntmps85
    go_wp2
    go_ret
    exact ⟨none, 0, rfl, Row.nil hf h1 _ _ _, Below.refl _ _, by simp [Value.ownBlock]⟩
  | some ad =>
    obtain ⟨i0, hi0, hz0, hz1, hz2⟩ := info
    have hB : Below w.heap.size w (w.alloc (.cells #[] 70)) := (Below.refl _ _).alloc (Nat.le_refl _) _
    have hS := h.below hB
    have hR : Row base 70 2 f (w.alloc (.cells #[] 70)) (.slice (some ⟨w.heap.size, 0, none⟩) 0 0) ([] : List α) :=
      ⟨hf, h1, by simp, .inr ⟨w.heap.size, 0, #[], rfl, hbase, heap_alloc_new w _, Nat.le_refl _, Nat.zero_le _, by simp, by simp⟩⟩
    have hbs : base ≤ (w.alloc (.cells #[] 70)).heap.size := Nat.le_trans hbase hB.size
    have hm : ([] : List α).length + L.length ≤ maxLen := by unfold maxLen; simp; omega
    have hby : (([] : List α).length + L.length) * 16 ≤ 140737488355328 := by simp; omega
    replace hS := Lib.hid hS
    replace hR := Lib.hid hR
    replace hbs := Lib.hid hbs
    replace hB := Lib.hid hB
    replace hm := Lib.hid hm
    replace hby := Lib.hid hby
    clear h
    go_enter Try.func85, Try.ntmps85
    go_wp2_with (at_builtin; refine wpList_append_row (f := f) (M := L) _ rfl _ _ 76 rfl base 70 i0 (.agg #[.int .i64 0, .int .u64 0]) 2 16 Try.underlying76 hi0 hz0 hz1 hz2 rfl (by decide) (.slice (some ⟨w.heap.size, 0, none⟩) 0 0) [] rfl hR.out (.slice (some ad) L.length c) rfl hS.out hm.out hby.out hbs.out ?_; intro a' c' w1 hrow hu hat; simp only [List.length_nil, Nat.zero_add, List.nil_append] at hrow hu hat ⊢; replace hrow := Lib.hid hrow; replace hu := Lib.hid hu; replace hat := Lib.hid hat)
    go_ret
    refine ⟨a', c', rfl, hrow.out, hB.out.trans (hu.out.below (by simp) (by simp [Value.ownBlock])), fun b hb => ?_⟩
    rcases hat.out with hh | hh
    · rw [hh] at hb; simp [Value.ownBlock] at hb; omega
    · rw [hh] at hb; simp at hb; omega
end ClHd
end Go.Proofs.Ytlhobbfncjjeaaa
