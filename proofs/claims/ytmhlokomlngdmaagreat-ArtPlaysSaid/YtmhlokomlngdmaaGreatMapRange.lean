/- Ranging over a map whose keys are ints, given as a list of entries: which entries have come; no program in sight. -/
import Derived.Maps.RangeWalk
import Derived.Test.YtmhlokomlngdmaaGreatMaps
namespace Go.Proofs.YtmhlokomlngdmaaGreat
open Go.RowKit Go.ChangeMaps Go.MapKept
theorem perm_of_nodup {α : Type} : ∀ {l m : List α}, l.Nodup → m.Nodup → (∀ a, a ∈ l ↔ a ∈ m) → l.Perm m
  | [], [], _, _, _ => .nil
  | [], b :: m, _, _, h => by have := (h b).2 (by simp); simp at this
  | a :: l, m, hl, hm, h => by
    obtain ⟨s, t, rfl⟩ := List.append_of_mem ((h a).1 (by simp))
    rw [List.nodup_cons] at hl
    have hp : (s ++ a :: t).Perm (a :: (s ++ t)) := List.perm_middle
    have hm' := hp.nodup_iff.1 hm
    rw [List.nodup_cons] at hm'
    refine (List.Perm.cons a (perm_of_nodup hl.2 hm'.2 fun b => ?_)).trans hp.symm
    constructor
    · intro hb
      have h1 := hp.mem_iff.1 ((h b).1 (List.mem_cons_of_mem _ hb))
      rcases List.mem_cons.1 h1 with rfl | h1
      · exact absurd hb hl.1
      · exact h1
    · intro hb
      have h1 := (h b).2 (hp.mem_iff.2 (List.mem_cons_of_mem _ hb))
      rcases List.mem_cons.1 h1 with rfl | h1
      · exact absurd hb hm'.1
      · exact h1
theorem nodup_sub_len {α : Type} : ∀ {l m : List α}, l.Nodup → (∀ a, a ∈ l → a ∈ m) → l.length ≤ m.length
  | [], _, _, _ => Nat.zero_le _
  | a :: l, m, hl, h => by
    obtain ⟨s, t, rfl⟩ := List.append_of_mem (h a (by simp))
    rw [List.nodup_cons] at hl
    have := nodup_sub_len (l := l) (m := s ++ t) hl.2 fun b hb => by
      have h1 := h b (List.mem_cons_of_mem _ hb)
      simp only [List.mem_append, List.mem_cons] at h1 ⊢
      rcases h1 with h1 | rfl | h1
      · exact .inl h1
      · exact absurd hb hl.1
      · exact .inr h1
    simp at this ⊢
    omega
/-- When the entries were born. -/
def Born {α : Type} (bn : α → Nat) (L : List α) (c : Nat) : Prop := (L.map bn).Nodup ∧ ∀ x, x ∈ L → bn x < c
theorem Born.nil {α : Type} (bn : α → Nat) (c : Nat) : Born bn ([] : List α) c := ⟨by simp, by simp⟩
theorem Born.snoc {α : Type} {bn : α → Nat} {L : List α} {c : Nat} (h : Born bn L c) (x : α) (hx : bn x = c) : Born bn (L ++ [x]) (c + 1) := by
  refine ⟨?_, fun y hy => ?_⟩
  · rw [List.map_append, List.nodup_append]
    refine ⟨h.1, by simp, fun a ha b hb => ?_⟩
    obtain ⟨y, hy, rfl⟩ := List.mem_map.1 ha
    have := h.2 y hy
    simp at hb
    omega
  · rcases List.mem_append.1 hy with hy | hy
    · have := h.2 y hy; omega
    · simp at hy; subst hy; omega
theorem Born.filter {α : Type} {bn : α → Nat} {L : List α} {c : Nat} (h : Born bn L c) (p : α → Bool) : Born bn (L.filter p) c :=
  ⟨h.1.sublist ((List.filter_sublist).map _), fun x hx => h.2 x (List.mem_filter.1 hx).1⟩
theorem Born.nodup {α : Type} {bn : α → Nat} {L : List α} {c : Nat} (h : Born bn L c) : L.Nodup := by
  have := h.1
  unfold List.Nodup at this ⊢
  exact (List.pairwise_map.1 this).imp fun hne he => hne (congrArg _ he)
theorem Born.inj {α : Type} {bn : α → Nat} {L : List α} {c : Nat} (h : Born bn L c) {x y : α} (hx : x ∈ L) (hy : y ∈ L) (he : bn x = bn y) : x = y := by
  have h1 := h.1
  revert hx hy
  clear h
  induction L with
  | nil => intro hx; cases hx
  | cons a l ih =>
    rw [List.map_cons, List.nodup_cons] at h1
    intro hx hy
    rcases List.mem_cons.1 hx with hx | hx <;> rcases List.mem_cons.1 hy with hy | hy
    · rw [hx, hy]
    · exact absurd (by rw [← hx, he]; exact List.mem_map_of_mem hy) h1.1
    · exact absurd (by rw [← hy, ← he]; exact List.mem_map_of_mem hx) h1.1
    · exact ih h1.2 hx hy
section
variable {α : Type} {mk : α → Int} {mv : α → Value} {bn : α → Nat}
def entOf (mk : α → Int) (mv : α → Value) (bn : α → Nat) (x : α) : Ent := ⟨mk x, mv x, bn x⟩
/-- A range over the map m: its iterator lies in the block r; S: what has come. -/
structure Rg (mk : α → Int) (mv : α → Value) (bn : α → Nat) (w : World) (r m : Nat) (L : List α) (c : Nat) (S : List α) : Prop where
  it : ∃ seen c0, w.heap[r]? = some (.mapIter (some m) c seen c0) ∧ c ≤ c0 ∧ ∀ b, seen.contains b = true ↔ b ∈ S.map bn
  map : w.heap[m]? = some (.map (ents (L.map (entOf mk mv bn))) c)
  bd : Born bn L c
  sub : ∀ x, x ∈ S → x ∈ L
  nd : S.Nodup
theorem Rg.upd {w w' : World} {r m : Nat} {L S : List α} {c : Nat} {T : List Nat} (h : Rg mk mv bn w r m L c S) (hu : Upd T w w') (hr : r ∉ T) (hm : m ∉ T) : Rg mk mv bn w' r m L c S := by
  obtain ⟨seen, c0, h1, h2, h3⟩ := h.it
  exact ⟨⟨seen, c0, hu.heap h1 hr, h2, h3⟩, hu.heap h.map hm, h.bd, h.sub, h.nd⟩
theorem Rg.ne {w : World} {r m : Nat} {L S : List α} {c : Nat} (h : Rg mk mv bn w r m L c S) : r ≠ m := by
  obtain ⟨seen, c0, h1, _⟩ := h.it
  intro e
  subst e
  rw [h.map] at h1
  cases h1
theorem Rg.len {w : World} {r m : Nat} {L S : List α} {c : Nat} (h : Rg mk mv bn w r m L c S) : S.length ≤ L.length := nodup_sub_len h.nd h.sub
theorem entOf_born (L : List α) : ((ents (L.map (entOf mk mv bn))).toList.map (·.born)) = L.map bn := by
  simp [ents, entOf, Ent.toEntry]
theorem mem_entOf {L : List α} {e : MapEntry} (h : e ∈ (ents (L.map (entOf mk mv bn))).toList) : ∃ x, x ∈ L ∧ e = { key := .int .i64 (mk x), val := mv x, born := bn x } := by
  simp [ents, entOf, Ent.toEntry] at h
  obtain ⟨x, hx, rfl⟩ := h
  exact ⟨x, hx, rfl⟩
theorem entOf_mem {L : List α} {x : α} (h : x ∈ L) : ({ key := .int .i64 (mk x), val := mv x, born := bn x } : MapEntry) ∈ (ents (L.map (entOf mk mv bn))).toList := by
  simp [ents, entOf, Ent.toEntry]
  exact ⟨x, h, rfl, rfl, rfl⟩
theorem Rg.start {w : World} {m : Nat} {L : List α} {c : Nat} (hb : w.heap[m]? = some (.map (ents (L.map (entOf mk mv bn))) c)) (hbd : Born bn L c) : Rg mk mv bn (w.alloc (.mapIter (some m) c #[] c)) w.heap.size m L c [] :=
  ⟨⟨#[], c, heap_alloc_new _ _, Nat.le_refl _, by simp⟩, heap_alloc_old _ hb, hbd, by simp, by simp⟩
/-- The step. -/
theorem Rg.next {P : Program} {w : World} {r m : Nat} {L S : List α} {c : Nat} (h : Rg mk mv bn w r m L c S) (ty : TypeId) :
    (S.Perm L ∧ (Instr.next (.pointer (some ⟨r, 0, none⟩)) false ty).run P w = .ok (.tuple #[.bool false]) w) ∨
    ∃ (x : α) (w' : World), x ∈ L ∧ x ∉ S ∧ (Instr.next (.pointer (some ⟨r, 0, none⟩)) false ty).run P w = .ok (.tuple #[.bool true, .int .i64 (mk x), mv x]) w' ∧ Rg mk mv bn w' r m L c (S ++ [x]) ∧ Upd [r] w w' ∧ w'.heap.size = w.heap.size ∧
      (Instr.entry (.pointer (some ⟨r, 0, none⟩))).run P w' = .ok (.tuple #[.int .i64 (mk x), mv x]) w' := by
  have hne := h.ne
  obtain ⟨seen, c0, hr, hc, hs⟩ := h.it
  have hold : ∀ e ∈ (ents (L.map (entOf mk mv bn))).toList, e.born < c := fun e he => by
    obtain ⟨x, hx, rfl⟩ := mem_entOf he
    exact h.bd.2 x hx
  rcases run_next_at (P := P) w ty r m c c0 seen _ c hr h.map hold hc with ⟨h0, hrun⟩ | ⟨e, he, w1, hal, hrun⟩
  · refine .inl ⟨perm_of_nodup h.nd h.bd.nodup fun x => ⟨h.sub x, fun hx => ?_⟩, hrun⟩
    have h1 := (hs (bn x)).1 (all_seen _ seen h0 _ (entOf_mem hx))
    obtain ⟨y, hy, hyx⟩ := List.mem_map.1 h1
    rw [h.bd.inj hx (h.sub y hy) hyx.symm]
    exact hy
  · obtain ⟨hem, hes⟩ := mem_left he
    obtain ⟨x, hx, rfl⟩ := mem_entOf hem
    have hxS : x ∉ S := fun hxs => by
      have := (hs (bn x)).2 (List.mem_map_of_mem hxs)
      rw [this] at hes
      cases hes
    have hr1 : w1.heap[r]? = some (.mapIter (some m) c seen c0) := by rcases hal with rfl | rfl <;> exact hr
    have hm1 : w1.heap[m]? = some (.map (ents (L.map (entOf mk mv bn))) c) := by rcases hal with rfl | rfl <;> exact h.map
    have hset := heap_set (o' := .mapIter (some m) c (seen.push (bn x)) c) hr1
    have hm' := (hset.2 m (fun e1 => hne e1.symm)).trans hm1
    refine .inr ⟨x, _, hx, hxS, hrun, ⟨⟨_, c, hset.1, Nat.le_refl _, fun b => ?_⟩, hm', h.bd, fun y hy => ?_, ?_⟩, ?_, ?_, ?_⟩
    · rw [contains_push, Bool.or_eq_true, hs b, beq_iff_eq]
      simp
    · rcases List.mem_append.1 hy with hy | hy
      · exact h.sub y hy
      · simp at hy; subst hy; exact hx
    · rw [List.nodup_append]
      refine ⟨h.nd, by simp, fun a ha b hb => ?_⟩
      simp at hb
      subst hb
      intro e1
      subst e1
      exact hxS ha
    · rcases hal with rfl | rfl
      · exact ⟨rfl, rfl, rfl, by simp [setBlock], fun k _ hk => hset.2 k (fun e1 => hk (by simp [e1]))⟩
      · exact ⟨rfl, rfl, rfl, by simp [setBlock], fun k _ hk => hset.2 k (fun e1 => hk (by simp [e1]))⟩
    · rcases hal with rfl | rfl <;> simp [setBlock]
    · exact run_entry_at _ r m c seen _ c _ hset.1 hm' hem (by rw [entOf_born]; exact h.bd.1)
variable {P : Program} (w : World) {ops : Array Oper} {rest : List Oper} {o : Oper} {a : Act} {Q : Exit → Act → World → Prop}
theorem wpList_range_ents (hg : o.guard = none) (mo : Operand) (t : TypeId) (hop : o.op = Op.range t mo) (k e : TypeId) (ht : P.underlying t = some (.map k e)) (m : Nat) (L : List α) (c : Nat)
    (hm : a.eval mo = .map (some m)) (hb : w.heap[m]? = some (.map (ents (L.map (entOf mk mv bn))) c)) (hbd : Born bn L c)
    (hK : ∀ w', Rg mk mv bn w' w.heap.size m L c [] → Below w.heap.size w w' → w'.heap.size = w.heap.size + 1 → wpList P ops Q rest (a.put o.dst (.pointer (some ⟨w.heap.size, 0, none⟩))) w') :
    wpList P ops Q (o :: rest) a w := by
  refine wpList_plain hg fun K' hK' => ?_
  have hrun := run_range_map (P := P) w t k e m _ c ht hb
  unfold Oper.wp
  simp [execOp, hop, hm, hrun, Result.andThen]
  exact hK' _ _ (hK _ (Rg.start hb hbd) ((Below.refl _ _).alloc (Nat.le_refl _) _) (by simp))
theorem wpList_next_ents (hg : o.guard = none) (it : Operand) (hop : o.op = Op.next it false) (r m : Nat) (L S : List α) (c : Nat) (hit : a.eval it = .pointer (some ⟨r, 0, none⟩)) (h : Rg mk mv bn w r m L c S)
    (hDone : S.Perm L → wpList P ops Q rest (a.put o.dst (.tuple #[.bool false])) w)
    (hMore : ∀ (x : α) (w' : World), x ∈ L → x ∉ S → Rg mk mv bn w' r m L c (S ++ [x]) → Upd [r] w w' → w'.heap.size = w.heap.size → (Instr.entry (.pointer (some ⟨r, 0, none⟩))).run P w' = .ok (.tuple #[.int .i64 (mk x), mv x]) w' →
      wpList P ops Q rest (a.put o.dst (.tuple #[.bool true, .int .i64 (mk x), mv x])) w') :
    wpList P ops Q (o :: rest) a w := by
  refine wpList_plain hg fun K' hK' => ?_
  unfold Oper.wp
  rcases h.next (P := P) o.type with ⟨h0, hrun⟩ | ⟨x, w', hx, hxS, hrun, hrg, hu, hsz, hen⟩
  · simp [execOp, hop, hit, hrun, Result.andThen]
    exact hK' _ _ (hDone h0)
  · simp [execOp, hop, hit, hrun, Result.andThen]
    exact hK' _ _ (hMore x w' hx hxS hrg hu hsz hen)
end
end Go.Proofs.YtmhlokomlngdmaaGreat
