/- The law EpochPlays without its program: what is run, and what the document's Epoch tells. -/
import Derived.Test.YtidiefcgepllmaaRef4N
namespace Go.Proofs.Ytidiefcgepllmaa
open Go.RowKit Go.Sort Go.Maps Go.Shelf
/-! ### The tasks that are pinned, rising -/
theorem rising_of {S : List Pn} {M : List Int} (hn : (S.map Pn.task).Nodup) (hs : M.Pairwise (fun a b => a < b)) (hm : ∀ a, a ∈ M ↔ ∃ y, y ∈ S ∧ y.task = a) : rising S = M := by
  have hp : (S.map Pn.task).Perm M := by
    refine perm_of_nodup hn (hs.imp (fun hab => by omega)) fun a => ?_
    rw [hm, List.mem_map]
  unfold rising
  rw [show (S.map Pn.task).mergeSort (fun x y => decide (x ≤ y)) = M.mergeSort (fun x y => decide (x ≤ y)) from mergeSort_of_perm_i hp]
  exact List.mergeSort_of_pairwise (hs.imp (fun hab => by simp; omega))
theorem rising_mem (S : List Pn) (a : Int) : a ∈ rising S ↔ ∃ y, y ∈ S ∧ y.task = a := by
  unfold rising
  rw [(List.mergeSort_perm _ _).mem_iff, List.mem_map]
theorem rising_sorted {S : List Pn} (hn : (S.map Pn.task).Nodup) : (rising S).Pairwise (fun a b => a < b) := by
  have h1 : (rising S).Pairwise (fun a b => decide (a ≤ b) = true) := List.pairwise_mergeSort (fun a b c => by simp; omega) (fun a b => by simp; omega) _
  have h2 : (rising S).Nodup := (List.mergeSort_perm _ _).nodup_iff.2 hn
  exact (h1.and h2).imp (fun {a b} hh => by obtain ⟨h3, h4⟩ := hh; simp at h3; omega)
theorem rising_len (S : List Pn) : (rising S).length = S.length := by
  unfold rising
  rw [List.length_mergeSort, List.length_map]
/-- A number put where it goes. -/
def ins (P : List Int) (t : Int) : List Int := P.take (cutAt P t) ++ t :: P.drop (cutAt P t)
theorem ins_cons (a : Int) (l : List Int) (t : Int) : ins (a :: l) t = if a < t then a :: ins l t else t :: a :: l := by
  unfold ins cutAt
  by_cases h : a < t <;> simp [List.takeWhile_cons, h]
theorem ins_mem (P : List Int) (t a : Int) : a ∈ ins P t ↔ a = t ∨ a ∈ P := by
  unfold ins
  constructor
  · intro h
    rcases List.mem_append.1 h with h | h
    · exact .inr (List.mem_of_mem_take h)
    · rcases List.mem_cons.1 h with h | h
      · exact .inl h
      · exact .inr (List.mem_of_mem_drop h)
  · rintro (rfl | h)
    · simp
    · have := List.take_append_drop (cutAt P t) P
      rw [← this] at h
      rcases List.mem_append.1 h with h | h
      · exact List.mem_append_left _ h
      · exact List.mem_append_right _ (List.mem_cons_of_mem _ h)
theorem ins_sorted {t : Int} : ∀ {P : List Int}, P.Pairwise (fun a b => a < b) → t ∉ P → (ins P t).Pairwise (fun a b => a < b)
  | [], _, _ => by simp [ins, cutAt]
  | a :: l, h, hn => by
    rw [List.pairwise_cons] at h
    rw [ins_cons]
    have hta : a ≠ t := fun e => hn (by simp [e])
    split
    · rename_i hat
      rw [List.pairwise_cons]
      refine ⟨fun b hb => ?_, ins_sorted h.2 (fun hh => hn (List.mem_cons_of_mem _ hh))⟩
      rcases (ins_mem l t b).1 hb with rfl | hb
      · exact hat
      · exact h.1 b hb
    · rw [List.pairwise_cons, List.pairwise_cons]
      refine ⟨fun b hb => ?_, h⟩
      rcases List.mem_cons.1 hb with rfl | hb
      · omega
      · have := h.1 b hb; omega
theorem ins_filter (p : Int → Bool) (P : List Int) (t : Int) (h : p t = false) : (ins P t).filter p = P.filter p := by
  unfold ins
  rw [List.filter_append, List.filter_cons_of_neg (by simp [h]), ← List.filter_append, List.take_append_drop]
theorem nodup_pin {S : List Pn} {t : Int} {n c : Nat} (hn : (S.map Pn.task).Nodup) (ht : ∀ y, y ∈ S → y.task ≠ t) : ((S ++ [(⟨t, n, c⟩ : Pn)]).map Pn.task).Nodup := by
  rw [List.map_append, List.nodup_append]
  refine ⟨hn, by simp, fun a ha b hb => ?_⟩
  obtain ⟨y, hy, rfl⟩ := List.mem_map.1 ha
  simp at hb
  subst hb
  exact ht y hy
theorem rising_pin {S : List Pn} {t : Int} {n c : Nat} (hn : (S.map Pn.task).Nodup) (ht : ∀ y, y ∈ S → y.task ≠ t) : rising (S ++ [⟨t, n, c⟩]) = ins (rising S) t := by
  refine rising_of (nodup_pin hn ht) (ins_sorted (rising_sorted hn) (fun hh => ?_)) fun a => ?_
  · obtain ⟨y, hy, hyt⟩ := (rising_mem S t).1 hh
    exact ht y hy hyt
  · rw [ins_mem, rising_mem]
    constructor
    · rintro (rfl | ⟨y, hy, rfl⟩)
      · exact ⟨⟨a, n, c⟩, by simp, rfl⟩
      · exact ⟨y, by simp [hy], rfl⟩
    · rintro ⟨y, hy, rfl⟩
      rcases List.mem_append.1 hy with hy | hy
      · exact .inr ⟨y, hy, rfl⟩
      · simp at hy; subst hy; exact .inl rfl
theorem nodup_drop {S : List Pn} {t : Int} (hn : (S.map Pn.task).Nodup) : ((dropTask t S).map Pn.task).Nodup :=
  hn.sublist ((List.filter_sublist).map _)
theorem rising_drop {S : List Pn} {t : Int} (hn : (S.map Pn.task).Nodup) : rising (dropTask t S) = wo (rising S) t := by
  refine rising_of (nodup_drop hn) ((rising_sorted hn).filter _) fun a => ?_
  unfold wo dropTask
  rw [List.mem_filter, rising_mem]
  constructor
  · rintro ⟨⟨y, hy, rfl⟩, h⟩
    exact ⟨y, List.mem_filter.2 ⟨hy, by simpa using h⟩, rfl⟩
  · rintro ⟨y, hy, rfl⟩
    rw [List.mem_filter] at hy
    exact ⟨⟨y, hy.1, rfl⟩, by simpa using hy.2⟩
/-! ### What is waited for -/
def waits (S : List Pn) (k : Nat) : List Int := (rising S).filter fun t => S.any fun y => y.task == t && decide (y.t ≤ k)
theorem waits_nil (S : List Pn) (k : Nat) : waits S k = [] ↔ ∀ y, y ∈ S → k < y.t := by
  unfold waits
  rw [List.filter_eq_nil_iff]
  constructor
  · intro h y hy
    have := h y.task ((rising_mem S _).2 ⟨y, hy, rfl⟩)
    simp only [List.any_eq_true, Bool.and_eq_true, beq_iff_eq, decide_eq_true_eq, not_exists, not_and] at this
    have := this y hy rfl
    omega
  · intro h t _
    simp only [List.any_eq_true, Bool.and_eq_true, beq_iff_eq, decide_eq_true_eq, not_exists, not_and]
    intro y hy _
    have := h y hy
    omega
theorem waits_pin {S : List Pn} {t : Int} {n c k : Nat} (hn : (S.map Pn.task).Nodup) (ht : ∀ y, y ∈ S → y.task ≠ t) (hk : k < n) : waits (S ++ [⟨t, n, c⟩]) k = waits S k := by
  unfold waits
  have hp : ∀ a : Int, ((S ++ [(⟨t, n, c⟩ : Pn)]).any fun y => y.task == a && decide (y.t ≤ k)) = S.any fun y => y.task == a && decide (y.t ≤ k) := fun a => by
    rw [List.any_append]
    have : decide (n ≤ k) = false := by simp; omega
    simp [this]
  simp only [hp]
  rw [rising_pin hn ht, ins_filter]
  rw [Bool.eq_false_iff]
  intro h
  rw [List.any_eq_true] at h
  obtain ⟨y, hy, h⟩ := h
  simp at h
  exact ht y hy h.1
theorem waits_drop {S : List Pn} {t : Int} {k : Nat} (hn : (S.map Pn.task).Nodup) : waits (dropTask t S) k = wo (waits S k) t := by
  unfold waits
  rw [rising_drop hn]
  unfold wo dropTask
  rw [List.filter_filter, List.filter_filter]
  refine List.filter_congr fun a _ => ?_
  rw [Bool.eq_iff_iff]
  simp only [Bool.and_eq_true, List.any_eq_true, List.mem_filter, beq_iff_eq, decide_eq_true_eq, bne_iff_ne, ne_eq]
  constructor
  · rintro ⟨⟨y, ⟨hy, h1⟩, rfl, h2⟩, h3⟩
    exact ⟨h3, y, hy, rfl, h2⟩
  · rintro ⟨h3, y, hy, rfl, h2⟩
    exact ⟨⟨y, ⟨hy, h3⟩, rfl, h2⟩, h3⟩
theorem waits_now {S : List Pn} {k : Nat} (h : ∀ y, y ∈ S → y.t ≤ k) : waits S k = rising S := by
  unfold waits
  rw [List.filter_eq_self]
  intro a ha
  obtain ⟨y, hy, rfl⟩ := (rising_mem S a).1 ha
  rw [List.any_eq_true]
  exact ⟨y, hy, by simp [h y hy]⟩
theorem waits_len (S : List Pn) (k : Nat) : (waits S k).length ≤ S.length := by
  have := List.length_filter_le (fun t => S.any fun y => y.task == t && decide (y.t ≤ k)) (rising S)
  rw [rising_len] at this
  exact this
theorem wo_self {P : List Int} {t : Int} (h : t ∉ P) : wo P t = P := by
  unfold wo
  rw [List.filter_eq_self]
  intro a ha
  simp
  exact fun e => h (e ▸ ha)
/-! ### What the law's functions do -/
structure A4 where
  d : Int
  t : Int
  h : Int
structure PlSt where
  P : List Int
  RL : List (Int × List Int)
  ran : List Int
  acts : List A4
  bx : List (Nat × Nat × Nat)
  xt : List (Nat × Obj)
def pinG (t : Int) (g : EpG) : EpG := if ∃ y, y ∈ g.S ∧ y.task = t then g else ⟨g.S ++ [⟨t, g.now + 1, g.c⟩], g.c + 1, g.now + 1⟩
def unpinG (t : Int) (g : EpG) : EpG := ⟨dropTask t g.S, g.c, g.now⟩
def thenG (a : A4) (g : EpG) : EpG := if a.h = 1 then pinG a.t g else if a.h = 2 then unpinG a.t g else g
def capsP (b : Nat × Nat × Nat) : Array Value := #[.pointer (some ⟨b.1, 0, none⟩), .pointer (some ⟨b.2.1, 0, none⟩), .pointer (some ⟨b.2.2, 0, none⟩)]
theorem capsP_inj {a b : Nat × Nat × Nat} (h : capsP a = capsP b) : a = b := by
  obtain ⟨a1, a2, a3⟩ := a
  obtain ⟨b1, b2, b3⟩ := b
  simp [capsP] at h
  simp [h]
def Rpl (r : Ret) (x : PlSt) (g : EpG) (x' : PlSt) (g' : EpG) (l : List Ret) : Prop :=
  ∃ (i : Nat) (b : Nat × Nat × Nat) (a : A4), x.bx[i]? = some b ∧ r.caps = capsP b ∧ (∀ j : Nat, x.bx[j]? = some b → j = i) ∧ x.acts[i]? = some a ∧ x.bx.length = x.acts.length ∧ g' = thenG a g ∧ x'.P = x.P ∧ x'.RL = x.RL ∧ x'.xt = x.xt ∧ x'.ran = x.ran ++ [(i : Int)] ∧
    ((a.h ≠ 3 ∧ x'.acts = x.acts ∧ x'.bx = x.bx ∧ l = []) ∨ (a.h = 3 ∧ x'.acts = x.acts ++ [⟨2, 0, 0⟩] ∧ ∃ b', x'.bx = x.bx ++ [b'] ∧ l = [⟨35, capsP b', g.now⟩]))
/-! ### Collect, told from its head -/
inductive Suf (R : Ret → PlSt → EpG → PlSt → EpG → List Ret → Prop) (x' : PlSt) (g' : EpG) (kept' later' : List Ret) (n' : Nat) : PlSt → EpG → List Ret → List Ret → Nat → List Ret → Prop
  | nil : Suf R x' g' kept' later' n' x' g' kept' later' n' []
  | skip {x g kept later n r xs} : ¬ (∀ y, y ∈ g.S → r.at' < y.t) → Suf R x' g' kept' later' n' x g (kept ++ [r]) later n xs → Suf R x' g' kept' later' n' x g kept later n (r :: xs)
  | run {x g kept later n r xs x1 g1 app} : (∀ y, y ∈ g.S → r.at' < y.t) → R r x g x1 g1 app → Suf R x' g' kept' later' n' x1 g1 kept (later ++ app) (n + 1) xs → Suf R x' g' kept' later' n' x g kept later n (r :: xs)
section
variable {R : Ret → PlSt → EpG → PlSt → EpG → List Ret → Prop} {x x0 x1 x' : PlSt} {g g0 g1 g' : EpG} {kept kept1 kept' later later1 later' app xs : List Ret} {n n1 n' : Nat} {r : Ret}
theorem Suf.snocSkip (h : Suf R x1 g1 kept1 later1 n1 x g kept later n xs) (hr : ¬ (∀ y, y ∈ g1.S → r.at' < y.t)) : Suf R x1 g1 (kept1 ++ [r]) later1 n1 x g kept later n (xs ++ [r]) := by
  induction h with
  | nil => exact .skip hr .nil
  | skip h1 _ ih => exact .skip h1 ih
  | run h1 h2 _ ih => exact .run h1 h2 ih
theorem Suf.snocRun (h : Suf R x1 g1 kept1 later1 n1 x g kept later n xs) (hr : ∀ y, y ∈ g1.S → r.at' < y.t) (hR : R r x1 g1 x' g' app) : Suf R x' g' kept1 (later1 ++ app) (n1 + 1) x g kept later n (xs ++ [r]) := by
  induction h with
  | nil => exact .run hr hR .nil
  | skip h1 _ ih => exact .skip h1 ih
  | run h1 h2 _ ih => exact .run h1 h2 ih
theorem Suf.of_coll (h : Coll R x0 g0 xs x g kept later n) : Suf R x g kept later n x0 g0 [] [] 0 xs := by
  induction h with
  | nil => exact .nil
  | skip _ h2 ih => exact ih.snocSkip h2
  | run _ h2 h3 ih => exact ih.snocRun h2 h3
/-- The next one that is run, or none. -/
theorem Suf.next (h : Suf R x' g' kept' later' n' x g kept later n xs) : (x' = x ∧ g' = g ∧ kept' = kept ++ xs ∧ later' = later ∧ n' = n ∧ ∀ r, r ∈ xs → ¬ (∀ y, y ∈ g.S → r.at' < y.t)) ∨
    ∃ ys r zs x1 g1 app, xs = ys ++ r :: zs ∧ (∀ r, r ∈ ys → ¬ (∀ y, y ∈ g.S → r.at' < y.t)) ∧ (∀ y, y ∈ g.S → r.at' < y.t) ∧ R r x g x1 g1 app ∧ Suf R x' g' kept' later' n' x1 g1 (kept ++ ys) (later ++ app) (n + 1) zs := by
  induction h with
  | nil => exact .inl ⟨rfl, rfl, by simp, rfl, rfl, by simp⟩
  | @skip x g kept later n r xs h1 _ ih =>
    rcases ih with ⟨e1, e2, e3, e4, e5, h2⟩ | ⟨ys, r2, zs, x1, g1, app, e1, h2, h3, h4, h5⟩
    · exact .inl ⟨e1, e2, by rw [e3]; simp, e4, e5, fun r2 hr => by
        rcases List.mem_cons.1 hr with rfl | hr
        · exact h1
        · exact h2 r2 hr⟩
    · refine .inr ⟨r :: ys, r2, zs, x1, g1, app, by rw [e1]; rfl, fun r3 hr => ?_, h3, h4, by rw [List.append_assoc] at h5; exact h5⟩
      rcases List.mem_cons.1 hr with rfl | hr
      · exact h1
      · exact h2 r3 hr
  | @run x g kept later n r xs x1 g1 app h1 h2 h3 _ => exact .inr ⟨[], r, xs, x1, g1, app, rfl, by simp, h1, h2, by simpa using h3⟩
end
/-- What grows. -/
structure Gr (x x' : PlSt) : Prop where
  ran : x.ran <+: x'.ran
  acts : x.acts <+: x'.acts
  bx : x.bx <+: x'.bx
theorem Gr.refl (x : PlSt) : Gr x x := ⟨List.prefix_refl _, List.prefix_refl _, List.prefix_refl _⟩
theorem Gr.trans {x y z : PlSt} (h : Gr x y) (k : Gr y z) : Gr x z := ⟨h.ran.trans k.ran, h.acts.trans k.acts, h.bx.trans k.bx⟩
theorem Rpl.gr {r : Ret} {x x' : PlSt} {g g' : EpG} {l : List Ret} (h : Rpl r x g x' g' l) : Gr x x' ∧ x'.ran.length = x.ran.length + 1 := by
  obtain ⟨i, b, a, _, _, _, _, _, _, _, _, _, h3, ⟨_, h5, h6, _⟩ | ⟨_, h5, b', h6, _⟩⟩ := h
  · exact ⟨⟨by rw [h3]; exact List.prefix_append _ _, by rw [h5]; exact List.prefix_refl _, by rw [h6]; exact List.prefix_refl _⟩, by rw [h3]; simp⟩
  · exact ⟨⟨by rw [h3]; exact List.prefix_append _ _, by rw [h5]; exact List.prefix_append _ _, by rw [h6]; exact List.prefix_append _ _⟩, by rw [h3]; simp⟩
theorem Suf.gr {x' x : PlSt} {g' g : EpG} {kept' later' kept later xs : List Ret} {n' n : Nat} (h : Suf Rpl x' g' kept' later' n' x g kept later n xs) : Gr x x' ∧ x'.ran.length + n = x.ran.length + n' := by
  induction h with
  | nil => exact ⟨Gr.refl _, rfl⟩
  | skip _ _ ih => exact ih
  | run _ h2 _ ih =>
    obtain ⟨h3, h4⟩ := h2.gr
    exact ⟨h3.trans ih.1, by omega⟩
/-- Two lists, element by element. -/
def Ent2 {α β : Type} (Q : α → β → Prop) (L : List α) (M : List β) : Prop := L.length = M.length ∧ ∀ (i : Nat) r p, L[i]? = some r → M[i]? = some p → Q r p
section
variable {α β : Type} {Q Q' : α → β → Prop} {L L' : List α} {M M' : List β}
theorem Ent2.imp (h : Ent2 Q L M) (hQ : ∀ r p, r ∈ L → Q r p → Q' r p) : Ent2 Q' L M := ⟨h.1, fun i r p hr hp => hQ r p (List.mem_of_getElem? hr) (h.2 i r p hr hp)⟩
theorem Ent2.map {f : β → β} (h : Ent2 Q L M) (hQ : ∀ r p, Q r p → Q' r (f p)) : Ent2 Q' L (M.map f) := ⟨by rw [h.1, List.length_map], fun i r p hr hp => by
  rw [List.getElem?_map] at hp
  cases hq : M[i]? with
  | none => rw [hq] at hp; cases hp
  | some q => rw [hq] at hp; injection hp with hp; subst hp; exact hQ r q (h.2 i r q hr hq)⟩
theorem Ent2.snoc (h : Ent2 Q L M) {r : α} {p : β} (hr : Q r p) : Ent2 Q (L ++ [r]) (M ++ [p]) := ⟨by simp [h.1], fun i r2 p2 h1 h2 => by
  by_cases hi : i < L.length
  · rw [List.getElem?_append_left hi] at h1
    rw [List.getElem?_append_left (by rw [← h.1]; exact hi)] at h2
    exact h.2 i r2 p2 h1 h2
  · rw [List.getElem?_append_right (by omega)] at h1
    rw [List.getElem?_append_right (by rw [← h.1]; omega), ← h.1] at h2
    rcases hj : i - L.length with _ | j
    · rw [hj] at h1 h2; simp at h1 h2; subst h1 h2; exact hr
    · rw [hj] at h1; simp at h1⟩
theorem Ent2.take {ys zs : List α} {r : α} (h : Ent2 Q (ys ++ r :: zs) M) : ∃ p, M[ys.length]? = some p ∧ Q r p ∧ Ent2 Q (ys ++ zs) (M.eraseIdx ys.length) := by
  have hl := h.1
  simp at hl
  have hk : ys.length < M.length := by omega
  refine ⟨M[ys.length], List.getElem?_eq_getElem hk, h.2 ys.length r _ (by simp) (List.getElem?_eq_getElem hk), by simp [List.length_eraseIdx, hk]; omega, fun i r2 p2 h1 h2 => ?_⟩
  rw [List.getElem?_eraseIdx] at h2
  by_cases hi : i < ys.length
  · rw [if_pos hi] at h2
    refine h.2 i r2 p2 ?_ h2
    rw [List.getElem?_append_left hi] at h1 ⊢
    exact h1
  · rw [if_neg hi] at h2
    refine h.2 (i + 1) r2 p2 ?_ h2
    rw [List.getElem?_append_right (by omega)] at h1 ⊢
    rw [show i + 1 - ys.length = i - ys.length + 1 by omega, List.getElem?_cons_succ]
    exact h1
end
/-- An entry of what is left, and the document's. -/
def EntOk (B : List (Nat × Nat × Nat)) (S : List Pn) (r : Ret) (p : Int × List Int) : Prop := ∃ (i : Nat) (b : Nat × Nat × Nat), B[i]? = some b ∧ r.f = 35 ∧ r.caps = capsP b ∧ p = ((i : Int), waits S r.at')
structure Mat (B : List (Nat × Nat × Nat)) (g : EpG) (L : List Ret) (P : List Int) (RL : List (Int × List Int)) : Prop where
  nd : (g.S.map Pn.task).Nodup
  st : ∀ y, y ∈ g.S → y.t ≤ g.now
  at' : ∀ r, r ∈ L → r.at' ≤ g.now
  pin : P = rising g.S
  ent : Ent2 (EntOk B g.S) L RL
theorem EntOk.mono {B B' : List (Nat × Nat × Nat)} {S : List Pn} {r : Ret} {p : Int × List Int} (h : EntOk B S r p) (hB : B <+: B') : EntOk B' S r p := by
  obtain ⟨i, b, h1, h2⟩ := h
  refine ⟨i, b, ?_, h2⟩
  obtain ⟨u, rfl⟩ := hB
  rw [List.getElem?_append_left (List.getElem?_eq_some_iff.1 h1).1]
  exact h1
section
variable {B B' : List (Nat × Nat × Nat)} {g : EpG} {L : List Ret} {P : List Int} {RL : List (Int × List Int)} {t : Int}
theorem Mat.mono (h : Mat B g L P RL) (hB : B <+: B') : Mat B' g L P RL := ⟨h.nd, h.st, h.at', h.pin, h.ent.imp (fun _ _ _ hh => hh.mono hB)⟩
theorem Mat.len (h : Mat B g L P RL) : L.length = RL.length := h.ent.1
theorem Mat.pin_new (h : Mat B g L P RL) (ht : ∀ y, y ∈ g.S → y.task ≠ t) : Mat B (pinG t g) L (ins P t) RL ∧ t ∉ P := by
  unfold pinG
  rw [if_neg (fun hh => by obtain ⟨y, hy, hyt⟩ := hh; exact ht y hy hyt)]
  refine ⟨⟨nodup_pin h.nd ht, fun y hy => ?_, fun r hr => Nat.le_succ_of_le (h.at' r hr), ?_, ?_⟩, fun hh => ?_⟩
  · rcases List.mem_append.1 hy with hy | hy
    · exact Nat.le_succ_of_le (h.st y hy)
    · simp at hy; subst hy; exact Nat.le_refl _
  · rw [h.pin, rising_pin h.nd ht]
  · refine h.ent.imp ?_
    rintro r p hr ⟨i, b, h1, h2, h3, h4⟩
    exact ⟨i, b, h1, h2, h3, by rw [h4, waits_pin h.nd ht (Nat.lt_succ_of_le (h.at' r hr))]⟩
  · rw [h.pin, rising_mem] at hh
    obtain ⟨y, hy, hyt⟩ := hh
    exact ht y hy hyt
theorem Mat.pin_old (h : Mat B g L P RL) (ht : ∃ y, y ∈ g.S ∧ y.task = t) : pinG t g = g ∧ t ∈ P := by
  refine ⟨if_pos ht, ?_⟩
  rw [h.pin, rising_mem]
  exact ht
theorem Mat.unpin (h : Mat B g L P RL) : Mat B (unpinG t g) L (wo P t) (RL.map fun r => (r.1, wo r.2 t)) ∧ (t ∈ P ↔ ∃ y, y ∈ g.S ∧ y.task = t) := by
  refine ⟨⟨nodup_drop h.nd, fun y hy => h.st y (List.mem_filter.1 hy).1, h.at', by rw [h.pin]; exact (rising_drop h.nd).symm, ?_⟩, by rw [h.pin, rising_mem]⟩
  refine h.ent.map ?_
  rintro r p ⟨i, b, h1, h2, h3, rfl⟩
  exact ⟨i, b, h1, h2, h3, by rw [show (unpinG t g).S = dropTask t g.S from rfl, waits_drop h.nd]⟩
theorem Mat.retire (h : Mat B g L P RL) (b : Nat × Nat × Nat) : Mat (B ++ [b]) g (L ++ [⟨35, capsP b, g.now⟩]) P (RL ++ [((B.length : Int), P)]) := by
  refine ⟨h.nd, h.st, fun r hr => ?_, h.pin, (h.mono (List.prefix_append _ _)).ent.snoc ⟨B.length, b, by simp, rfl, rfl, ?_⟩⟩
  · rcases List.mem_append.1 hr with hr | hr
    · exact h.at' r hr
    · simp at hr; subst hr; exact Nat.le_refl _
  · rw [waits_now h.st, h.pin]
/-- A step of the document's over one that is run, which is taken out. -/
theorem Mat.take {ys zs : List Ret} {r : Ret} (h : Mat B g (ys ++ r :: zs) P RL) : ∃ p, RL[ys.length]? = some p ∧ EntOk B g.S r p ∧ Mat B g (ys ++ zs) P (RL.eraseIdx ys.length) := by
  obtain ⟨p, h1, h2, h3⟩ := h.ent.take
  refine ⟨p, h1, h2, h.nd, h.st, fun r2 hr => h.at' r2 ?_, h.pin, h3⟩
  rcases List.mem_append.1 hr with hr | hr
  · simp [hr]
  · simp [hr]
end
end Go.Proofs.Ytidiefcgepllmaa
