/- The law EpochPlays: its state between two acts; what the functions that Collect runs leave of it. -/
import Derived.Test.YtidiefcgepllmaaPlaysK
namespace Go.Proofs.Ytidiefcgepllmaa
open Go.RowKit
def WfA (l : List A4) : Prop := ∀ a, a ∈ l → (Lit.int .i64 a.t).wf = true
def WfS (S : List Pn) : Prop := ∀ y, y ∈ S → (Lit.int .i64 y.task).wf = true
structure PI (x : PlSt) (g : EpG) (L : List Ret) (k : Nat) : Prop where
  mat : Mat x.bx g L x.P x.RL
  wfA : WfA x.acts
  wfS : WfS g.S
  bL : L.length ≤ k
  bA : x.acts.length ≤ 101 * k
  bR : x.ran.length ≤ 101 * k
  bN : g.now ≤ 101 * k
  bS : g.S.length ≤ g.now
theorem thenG_bd {a : A4} {g : EpG} (hS : g.S.length ≤ g.now) : (thenG a g).S.length ≤ (thenG a g).now := by
  have hf := List.length_filter_le (fun y : Pn => decide (y.task ≠ a.t)) g.S
  unfold thenG pinG unpinG dropTask
  split
  · split
    · exact hS
    · simp; exact hS
  · split
    · exact Nat.le_trans hf hS
    · exact hS
theorem thenG_wf {a : A4} {g : EpG} (ha : (Lit.int .i64 a.t).wf = true) (hS : WfS g.S) : WfS (thenG a g).S := by
  unfold thenG pinG unpinG dropTask
  split
  · split
    · exact hS
    · intro y hy
      rcases List.mem_append.1 hy with hy | hy
      · exact hS y hy
      · simp at hy; subst hy; exact ha
  · split
    · exact fun y hy => hS y (List.mem_filter.1 hy).1
    · exact hS
structure Bd (x : PlSt) (g : EpG) (x' : PlSt) (g' : EpG) (d : Nat) : Prop where
  acts : x'.acts.length ≤ x.acts.length + d
  ran : x'.ran.length ≤ x.ran.length + d
  now : g'.now ≤ g.now + d
  S : g.S.length ≤ g.now → g'.S.length ≤ g'.now
  wf : WfA x.acts → WfS g.S → WfA x'.acts ∧ WfS g'.S
  P : x'.P = x.P
  RL : x'.RL = x.RL
  xt : x'.xt = x.xt
theorem Rpl.bd {r : Ret} {x x' : PlSt} {g g' : EpG} {l : List Ret} (h : Rpl r x g x' g' l) : Bd x g x' g' 1 ∧ l.length ≤ 1 := by
  obtain ⟨i, b, a, _, _, _, ha, _, rfl, h1, h2, hx, h3, h4⟩ := h
  have hn := thenG_now a g
  rcases h4 with ⟨_, h5, h6, rfl⟩ | ⟨_, h5, b', h6, rfl⟩
  · exact ⟨⟨by rw [h5]; omega, by rw [h3]; simp, hn, thenG_bd, fun wa ws => ⟨by rw [h5]; exact wa, thenG_wf (wa a (List.mem_of_getElem? ha)) ws⟩, h1, h2, hx⟩, by simp⟩
  · exact ⟨⟨by rw [h5]; simp, by rw [h3]; simp, hn, thenG_bd, fun wa ws => ⟨by
      rw [h5]
      intro y hy
      rcases List.mem_append.1 hy with hy | hy
      · exact wa y hy
      · simp at hy; subst hy; decide, thenG_wf (wa a (List.mem_of_getElem? ha)) ws⟩, h1, h2, hx⟩, by simp⟩
theorem Suf.bd {x' x : PlSt} {g' g : EpG} {kept' later' kept later xs : List Ret} {n' n : Nat} (h : Suf Rpl x' g' kept' later' n' x g kept later n xs) : Bd x g x' g' xs.length ∧ kept'.length + later'.length ≤ kept.length + later.length + xs.length := by
  induction h with
  | nil => exact ⟨⟨by omega, by omega, by omega, id, fun h1 h2 => ⟨h1, h2⟩, rfl, rfl, rfl⟩, by simp⟩
  | skip _ _ ih =>
    obtain ⟨h, h2⟩ := ih
    simp at h2 ⊢
    exact ⟨⟨by have := h.acts; omega, by have := h.ran; omega, by have := h.now; omega, h.S, h.wf, h.P, h.RL, h.xt⟩, by omega⟩
  | run _ h2 _ ih =>
    obtain ⟨h, h3⟩ := ih
    obtain ⟨k, k2⟩ := h2.bd
    simp at h3 ⊢
    exact ⟨⟨by have := h.acts; have := k.acts; omega, by have := h.ran; have := k.ran; omega, by have := h.now; have := k.now; omega, fun hh => h.S (k.S hh), fun wa ws => h.wf (k.wf wa ws).1 (k.wf wa ws).2, by rw [h.P, k.P], by rw [h.RL, k.RL], by rw [h.xt, k.xt]⟩, by omega⟩
theorem PI.fns {x : PlSt} {g : EpG} {L : List Ret} {k : Nat} (h : PI x g L k) : ∀ r, r ∈ L → r.f = 35 ∧ ∃ b, b ∈ x.bx ∧ r.caps = capsP b := by
  intro r hr
  obtain ⟨i, hi⟩ := List.mem_iff_getElem?.1 hr
  have hl := (List.getElem?_eq_some_iff.1 hi).1
  have he := h.mat.ent.1
  obtain ⟨j, b, h1, h2, h3, _⟩ := h.mat.ent.2 i r _ hi (List.getElem?_eq_getElem (by omega))
  exact ⟨h2, b, List.mem_of_getElem? h1, h3⟩
theorem PI.after {x x' : PlSt} {g g' : EpG} {L kept' later' : List Ret} {k n' : Nat} {P : List Int} {RL : List (Int × List Int)} (h : PI x g L k) (hk : k ≤ 100) (hs : Suf Rpl x' g' kept' later' n' x g [] [] 0 L) (hm : Mat x'.bx g' (kept' ++ later') P RL) : PI { x' with P := P, RL := RL } g' (kept' ++ later') (k + 1) := by
  obtain ⟨h1, h2⟩ := hs.bd
  have b1 := h.bL
  have b2 := h.bA
  have b3 := h.bR
  have b4 := h.bN
  have b5 := h1.acts
  have b6 := h1.ran
  have b7 := h1.now
  simp at h2
  obtain ⟨w1, w2⟩ := h1.wf h.wfA h.wfS
  exact ⟨hm, w1, w2, by simp; omega, by show x'.acts.length ≤ _; omega, by show x'.ran.length ≤ _; omega, by omega, h1.S h.bS⟩
/-- Which of the document's entries is told next. -/
theorem Mat.nonripe {B : List (Nat × Nat × Nat)} {g : EpG} {kept ys zs : List Ret} {P : List Int} {RL : List (Int × List Int)} (h : Mat B g (kept ++ ys ++ zs) P RL) (hy : ∀ r, r ∈ ys → ¬ (∀ y, y ∈ g.S → r.at' < y.t)) :
    ∀ (i : Nat) (n : Int) (W : List Int), kept.length ≤ i → i < kept.length + ys.length → RL[i]? = some (n, W) → W ≠ [] := by
  intro i n W h1 h2 h3 h4
  subst h4
  have hg : (kept ++ ys ++ zs)[i]? = ys[i - kept.length]? := by
    rw [List.append_assoc, List.getElem?_append_right h1, List.getElem?_append_left (by omega)]
  have hr : ys[i - kept.length]? = some ys[i - kept.length] := List.getElem?_eq_getElem (by omega)
  rw [hr] at hg
  obtain ⟨j, b, _, _, _, h8⟩ := h.ent.2 i _ _ hg h3
  injection h8 with _ h8
  exact hy _ (List.mem_of_getElem? hr) ((waits_nil _ _).1 h8.symm)
theorem Mat.retireAt {B : List (Nat × Nat × Nat)} {g : EpG} {L : List Ret} {P : List Int} {RL : List (Int × List Int)} (h : Mat B g L P RL) {i : Nat} {b : Nat × Nat × Nat} (hi : B[i]? = some b) : Mat B g (L ++ [⟨35, capsP b, g.now⟩]) P (RL ++ [((i : Int), P)]) := by
  refine ⟨h.nd, h.st, fun r hr => ?_, h.pin, h.ent.snoc ⟨i, b, hi, rfl, rfl, ?_⟩⟩
  · rcases List.mem_append.1 hr with hr | hr
    · exact h.at' r hr
    · simp at hr; subst hr; exact Nat.le_refl _
  · rw [waits_now h.st, h.pin]
theorem prefix_get {α : Type} {l l' : List α} (h : l <+: l') {i : Nat} {a : α} (hi : l[i]? = some a) : l'[i]? = some a := by
  obtain ⟨u, rfl⟩ := h
  rw [List.getElem?_append_left (List.getElem?_eq_some_iff.1 hi).1]
  exact hi
/-- One that is run, at the document's. -/
theorem step_doc {x' xs x1 : PlSt} {g' gs g1 : EpG} {kept' later' kept later ys zs app : List Ret} {n' n : Nat} {r : Ret} {P : List Int} {RL : List (Int × List Int)} (hu : ∀ (i j : Nat) (b : Nat × Nat × Nat), x'.bx[i]? = some b → x'.bx[j]? = some b → i = j)
    (hm : Mat x'.bx gs (kept ++ (ys ++ r :: zs) ++ later) P RL) (hy : ∀ r, r ∈ ys → ¬ (∀ y, y ∈ gs.S → r.at' < y.t)) (hr : ∀ y, y ∈ gs.S → r.at' < y.t) (hR : Rpl r xs gs x1 g1 app) (hs : Suf Rpl x' g' kept' later' n' x1 g1 (kept ++ ys) (later ++ app) (n + 1) zs) :
    ∃ (i : Nat) (a : A4), RL[kept.length + ys.length]? = some ((i : Int), []) ∧ x'.ran[xs.ran.length]? = some (i : Int) ∧ x'.acts[i]? = some a ∧ g1 = thenG a gs ∧ x1.ran.length = xs.ran.length + 1 ∧
      (∀ (j : Nat) (nn : Int) (W : List Int), kept.length ≤ j → j < kept.length + ys.length → RL[j]? = some (nn, W) → W ≠ []) ∧
      Mat x'.bx gs (kept ++ ys ++ (zs ++ later)) P (RL.eraseIdx (kept.length + ys.length)) ∧
      ((a.h ≠ 3 ∧ x1.acts.length = xs.acts.length ∧ app = []) ∨ (a.h = 3 ∧ x1.acts.length = xs.acts.length + 1 ∧ ∃ b', x'.bx[xs.acts.length]? = some b' ∧ app = [⟨35, capsP b', gs.now⟩])) := by
  obtain ⟨i, b, a, h1, h2, h3, h4, h5, h6, hp1, hp2, hp3, h7, h8⟩ := hR
  have hgr := hs.gr.1
  have hgx : Gr xs x1 := (Rpl.gr ⟨i, b, a, h1, h2, h3, h4, h5, h6, hp1, hp2, hp3, h7, h8⟩).1
  have hm' : Mat x'.bx gs ((kept ++ ys) ++ r :: (zs ++ later)) P RL := by simpa using hm
  obtain ⟨p, q1, q2, q3⟩ := hm'.take
  rw [List.length_append] at q1 q3
  obtain ⟨j, b', k1, _, k3, rfl⟩ := q2
  have hbb : b' = b := capsP_inj (k3.symm.trans h2)
  subst hbb
  have hbi := prefix_get hgr.bx (prefix_get hgx.bx h1)
  obtain rfl : j = i := hu _ _ _ k1 hbi
  rw [(waits_nil _ _).2 hr] at q1
  refine ⟨j, a, q1, prefix_get hgr.ran (by rw [h7]; simp), prefix_get hgr.acts (prefix_get hgx.acts h4), h6, by rw [h7]; simp, Mat.nonripe (zs := (r :: zs) ++ later) (by simpa using hm) hy, q3, ?_⟩
  rcases h8 with ⟨h9, h10, _, h11⟩ | ⟨h9, h10, b2, h11, h12⟩
  · exact .inl ⟨h9, by rw [h10], h11⟩
  · exact .inr ⟨h9, by rw [h10]; simp, b2, prefix_get hgr.bx (by rw [h11, ← h5]; simp), h12⟩
end Go.Proofs.Ytidiefcgepllmaa
