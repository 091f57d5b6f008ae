/- How many keys, leaves, nodes and levels a B-link tree has; what Put and Delete do to the length of its content; no program in sight. A B-link tree for the laws: its block, its content, how much room its pool has; its contracts. -/
import Derived.Test.YtlhobbfncjjeaaaBkPutL
import Derived.Test.YtlhobbfncjjeaaaBkNext
import Derived.Test.YtlhobbfncjjeaaaBkNeed
import Derived.Test.YtlhobbfncjjeaaaBkNew
namespace Go.Proofs.Ytlhobbfncjjeaaa
theorem pairs_len {lo : Str} {n : BN} (h : NodeOK lo n) (hl : n.leaf = true) : n.pairs.length = n.keys.length := by
  unfold BN.pairs
  rw [List.length_zip, (h.lf hl).1, Nat.min_self]
theorem cont_le : ∀ {S : Lev}, (∀ x, x ∈ S → x.2.pairs.length ≤ 4) → (cont S).length ≤ 4 * S.length
  | [], _ => by simp [cont]
  | x :: S, h => by
    rw [cont_cons, List.length_append, List.length_cons]
    have := h x (by simp)
    have := cont_le (S := S) (fun y hy => h y (by simp [hy]))
    omega
theorem cont_ge : ∀ {S : Lev}, (∀ x, x ∈ S → 2 ≤ x.2.pairs.length) → 2 * S.length ≤ (cont S).length
  | [], _ => by simp
  | x :: S, h => by
    rw [cont_cons, List.length_append, List.length_cons]
    have := h x (by simp)
    have := cont_ge (S := S) (fun y hy => h y (by simp [hy]))
    omega
section
variable {Ls : List Lev}
theorem Tower.level0 (ht : Tower Ls) : ∃ S, Ls[0]? = some S ∧ LevOK true S := by
  obtain ⟨x, hx⟩ := ht.top
  have hl := (List.getElem?_eq_some_iff.1 hx).1
  have hS : Ls[0]? = some Ls[0] := List.getElem?_eq_getElem (by omega)
  exact ⟨_, hS, ht.ok _ _ hS⟩
theorem Tower.le4 (ht : Tower Ls) (hs : Slim Ls) : (content Ls).length ≤ 4 * leaves Ls := by
  obtain ⟨S, hS, hok⟩ := ht.level0
  rw [content_of hS, leaves_of hS]
  refine cont_le fun x hx => ?_
  obtain ⟨l, hl⟩ := hok.node hx
  rw [pairs_len hl (hok.lf x hx)]
  exact hs 0 S hS x hx
theorem Tower.ge2 (ht : Tower Ls) (hf : Fat Ls) (h1 : 2 ≤ leaves Ls) : 2 * leaves Ls ≤ (content Ls).length := by
  obtain ⟨S, hS, hok⟩ := ht.level0
  rcases hf with hf | hf
  · obtain ⟨x, hx⟩ := ht.top
    rw [hf] at hx
    rw [leaves_of hx] at h1
    simp at h1
  · rw [content_of hS, leaves_of hS]
    refine cont_ge fun x hx => ?_
    obtain ⟨l, hl⟩ := hok.node hx
    rw [pairs_len hl (hok.lf x hx)]
    exact hf S hS x hx
theorem needL_le : ∀ l : List Nat, needL l ≤ l.length + 1
  | [] => by simp [needL]
  | c :: cs => by
    have := needL_le cs
    unfold needL
    split <;> simp <;> omega
theorem need_le (key : Str) : needOf Ls key ≤ Ls.length + 1 := by
  unfold needOf
  have := needL_le (Ls.map (kcount key))
  simpa using this
/-- Room enough for a key more. -/
theorem Tower.room (ht : Tower Ls) (hk : Thick Ls) {c c0 lv h : Nat} (hc : c + nodes Ls = c0) (hl : leaves Ls ≤ lv) (hh : lv < 2 ^ h) (h0 : 2 * lv + h ≤ c0) (key : Str) : needOf Ls key ≤ c := by
  obtain ⟨h1, h2, h3⟩ := ht.size hk
  have h4 := need_le (Ls := Ls) key
  have h5 : Ls.length - 1 < h := (Nat.pow_lt_pow_iff_right (a := 2) (by omega)).1 (Nat.lt_of_le_of_lt (Nat.le_trans h2 hl) hh)
  omega
theorem Tower.sorted (ht : Tower Ls) : CSort (content Ls) := by
  obtain ⟨S, hS, hok⟩ := ht.level0
  rw [content_of hS]
  exact cont_sort hok.seg
end
theorem csort_parts {C : Cont} (h : CSort C) (k : Str) : (cget C k = none ∧ C.length = (C.filter fun p => slt p.1 k).length + (C.filter fun p => slt k p.1).length) ∨ ((∃ v, cget C k = some v) ∧ C.length = (C.filter fun p => slt p.1 k).length + (C.filter fun p => slt k p.1).length + 1) := by
  induction C with
  | nil => exact .inl ⟨rfl, rfl⟩
  | cons p C ih =>
    obtain ⟨h1, h2⟩ := List.pairwise_cons.1 h
    by_cases e : p.1 = k
    · right
      refine ⟨⟨p.2, by simp [cget, e]⟩, ?_⟩
      have a1 : C.filter (fun q => slt q.1 k) = [] := filter_none fun q hq => slt_asymm (by rw [← e]; exact h1 q hq)
      have a2 : C.filter (fun q => slt k q.1) = C := filter_all fun q hq => by rw [← e]; exact h1 q hq
      rw [List.filter_cons, List.filter_cons, a1, a2, if_neg (by rw [e, slt_irrefl]; simp), if_neg (by rw [e, slt_irrefl]; simp)]
      simp
    · have hg : cget (p :: C) k = cget C k := by unfold cget; rw [List.find?_cons, decide_eq_false e]
      rw [hg]
      have hx : (slt p.1 k = true ∧ slt k p.1 = false) ∨ (slt p.1 k = false ∧ slt k p.1 = true) := by
        cases h3 : slt p.1 k
        · cases h4 : slt k p.1
          · exact absurd (slt_eq h3 h4) e
          · exact .inr ⟨rfl, rfl⟩
        · exact .inl ⟨rfl, slt_asymm h3⟩
      rw [List.filter_cons, List.filter_cons]
      rcases ih h2 with ⟨g, l⟩ | ⟨g, l⟩
      · refine .inl ⟨g, ?_⟩
        rcases hx with ⟨x1, x2⟩ | ⟨x1, x2⟩ <;> simp [x1, x2] <;> omega
      · refine .inr ⟨g, ?_⟩
        rcases hx with ⟨x1, x2⟩ | ⟨x1, x2⟩ <;> simp [x1, x2] <;> omega
theorem cput_len {C : Cont} (h : CSort C) (k v : Str) : (cput C k v).length = if (cget C k).isSome then C.length else C.length + 1 := by
  unfold cput
  rcases csort_parts h k with ⟨g, l⟩ | ⟨⟨x, g⟩, l⟩ <;> rw [g] <;> simp <;> omega
theorem cdel_len {C : Cont} (h : CSort C) (k : Str) : (cdel C k).length = (if (cget C k).isSome then C.length - 1 else C.length) ∧ ((cget C k).isSome = true → 1 ≤ C.length) := by
  have e : cdel C k = C.filter (fun p => slt p.1 k || slt k p.1) := by
    unfold cdel
    refine List.filter_congr fun p _ => ?_
    by_cases e : p.1 = k
    · rw [e, slt_irrefl]; simp
    · rw [decide_eq_false e]
      cases h3 : slt p.1 k
      · cases h4 : slt k p.1
        · exact absurd (slt_eq h3 h4) e
        · rfl
      · rfl
  have h1 : (C.filter (fun p => slt p.1 k || slt k p.1)).length = (C.filter fun p => slt p.1 k).length + (C.filter fun p => slt k p.1).length := by
    clear h e
    induction C with
    | nil => rfl
    | cons p C ih =>
      rw [List.filter_cons, List.filter_cons, List.filter_cons]
      cases h3 : slt p.1 k
      · cases h4 : slt k p.1 <;> simp [ih]; omega
      · have h4 := slt_asymm h3
        rw [h4]
        simp [ih]; omega
  rw [e, h1]
  rcases csort_parts h k with ⟨g, l⟩ | ⟨⟨x, g⟩, l⟩ <;> rw [g] <;> simp <;> omega
end Go.Proofs.Ytlhobbfncjjeaaa
namespace Go.Proofs.Ytlhobbfncjjeaaa
open Go.RowKit
/-- A tree at block t of the pool at block p: its content; free slots and nodes together; at most so many leaves; nothing was deleted yet. -/
def TreeIs (w0 w : World) (p t : Nat) (C : Cont) (c0 lv : Nat) (fat : Bool) : Prop :=
  ∃ ρ P gens free D rt i d Ls r, (P.1 = p ∧ gens.length = c0) ∧ BW w0 w ρ P gens free D ∧ Tr w ρ P D rt i t d Ls r C.length ∧ Slim Ls ∧ content Ls = C ∧ free.count true + nodes Ls = c0 ∧ leaves Ls ≤ lv ∧ (fat = true → Fat Ls)
theorem slim_flat {Ls : List Lev} (hs : Slim Ls) : ∀ x, x ∈ Ls.flatten → x.2.keys.length ≤ 1000 := fun x hx => by
  obtain ⟨R, hR, hx⟩ := List.mem_flatten.1 hx
  obtain ⟨k, hk⟩ := List.mem_iff_getElem?.1 hR
  have := hs k R hk x hx
  omega
section
variable {w0 w w' : World} {p t c0 lv : Nat} {C : Cont} {fat : Bool}
theorem TreeIs.below (h : TreeIs w0 w p t C c0 lv fat) (hb : Below w.heap.size w w') : TreeIs w0 w' p t C c0 lv fat := by
  obtain ⟨ρ, P, gens, free, D, rt, i, d, Ls, r, h1, h2, h3, h4, h5, h6, h7, h8⟩ := h
  exact ⟨ρ, P, gens, free, D, rt, i, d, Ls, r, h1, h2.below hb, h3.below h2 hb, h4, h5, h6, h7, h8⟩
theorem TreeIs.bel (h : TreeIs w0 w p t C c0 lv fat) : Below w0.heap.size w0 w := by
  obtain ⟨ρ, P, gens, free, D, rt, i, d, Ls, r, h1, h2, h3, h4, h5, h6, h7, h8⟩ := h
  exact h2.ro.bel
theorem TreeIs.up (h : TreeIs w0 w p t C c0 lv fat) {lv' : Nat} (hl : lv ≤ lv') : TreeIs w0 w p t C c0 lv' fat := by
  obtain ⟨ρ, P, gens, free, D, rt, i, d, Ls, r, h1, h2, h3, h4, h5, h6, h7, h8⟩ := h
  exact ⟨ρ, P, gens, free, D, rt, i, d, Ls, r, h1, h2, h3, h4, h5, h6, Nat.le_trans h7 hl, h8⟩
theorem TreeIs.sorted (h : TreeIs w0 w p t C c0 lv fat) : CSort C := by
  obtain ⟨ρ, P, gens, free, D, rt, i, d, Ls, r, h1, h2, h3, h4, h5, h6, h7, h8⟩ := h
  rw [← h5]; exact h3.tow.sorted
/-- A tree from which nothing was deleted has few leaves. -/
theorem TreeIs.thin (h : TreeIs w0 w p t C c0 lv true) : TreeIs w0 w p t C c0 (max 1 (C.length / 2)) true := by
  obtain ⟨ρ, P, gens, free, D, rt, i, d, Ls, r, h1, h2, h3, h4, h5, h6, h7, h8⟩ := h
  refine ⟨ρ, P, gens, free, D, rt, i, d, Ls, r, h1, h2, h3, h4, h5, h6, ?_, h8⟩
  by_cases h2l : 2 ≤ leaves Ls
  · have := h3.tow.ge2 (h8 rfl) h2l
    rw [h5] at this
    omega
  · omega
theorem TreeIs.hll {Ls : List Lev} (ht : Tower Ls) (hk : Thick Ls) (hl : leaves Ls ≤ lv) (hlv : lv ≤ 10000) : Ls.length ≤ 1000 ∧ nodes Ls ≤ 20000 := by
  obtain ⟨h1, h2, h3⟩ := ht.size hk
  refine ⟨?_, by omega⟩
  have h5 : Ls.length - 1 < 14 := (Nat.pow_lt_pow_iff_right (a := 2) (by omega)).1 (Nat.lt_of_le_of_lt (Nat.le_trans h2 hl) (by omega))
  omega
theorem TreeIs.get (h : TreeIs w0 w p t C c0 lv fat) (key : Str) :
    Calls Try.prog 14 #[.pointer (some ⟨t, 0, none⟩), .string key, .nilFunc] w fun e w' => e = .returned (.tuple #[.string ((cget C key).getD s0), .bool (cget C key).isSome, .bool false]) ∧ Below w.heap.size w w' := by
  obtain ⟨ρ, P, gens, free, D, rt, i, d, Ls, r, h1, h2, h3, h4, h5, h6, h7, h8⟩ := h
  have := h3.get h2 (slim_flat h4) key
  rw [h5] at this
  exact this
theorem TreeIs.next (h : TreeIs w0 w p t C c0 lv fat) (key : Str) (after : Bool) :
    Calls Try.prog 17 #[.pointer (some ⟨t, 0, none⟩), .string key, .bool after, .nilFunc] w fun e w' => e = .returned (nextV (cnext C key after)) ∧ Below w.heap.size w w' := by
  obtain ⟨ρ, P, gens, free, D, rt, i, d, Ls, r, h1, h2, h3, h4, h5, h6, h7, h8⟩ := h
  have := h3.next h2 (slim_flat h4) key after
  rw [h5] at this
  exact this
theorem TreeIs.len (h : TreeIs w0 w p t C c0 lv fat) : Calls Try.prog 24 #[.pointer (some ⟨t, 0, none⟩)] w fun e w' => e = .returned (.int .i64 C.length) ∧ w = w' := by
  obtain ⟨ρ, P, gens, free, D, rt, i, d, Ls, r, h1, h2, h3, h4, h5, h6, h7, h8⟩ := h
  exact h3.len
theorem TreeIs.all (h : TreeIs w0 w p t C c0 lv fat) (hC : C.length ≤ 100000) : Calls Try.prog 22 #[.pointer (some ⟨t, 0, none⟩)] w (AllEnd w C) := by
  obtain ⟨ρ, P, gens, free, D, rt, i, d, Ls, r, h1, h2, h3, h4, h5, h6, h7, h8⟩ := h
  have := h3.all h2 (slim_flat h4) (by rw [h5]; exact hC)
  rw [h5] at this
  exact this
theorem TreeIs.check (h : TreeIs w0 w p t C c0 lv fat) (hlv : lv ≤ 10000) (hC : C.length ≤ 100000) : Calls Try.prog 19 #[.pointer (some ⟨t, 0, none⟩)] w fun e w' => e = .returned (.bool true) ∧ Below w.heap.size w w' := by
  obtain ⟨ρ, P, gens, free, D, rt, i, d, Ls, r, h1, h2, h3, h4, h5, h6, h7, h8⟩ := h
  have := (TreeIs.hll h3.tow h3.thk h7 hlv).2
  exact h3.check h2 h4 (by omega) (by rw [h5]; exact hC) (by rw [h5])
/-- How many nodes. -/
def SlotsEnd (w : World) (C : Cont) (c0 lv : Nat) (fat : Bool) (e : Ending) (w' : World) : Prop := ∃ n : Nat, e = .returned (.int .i64 n) ∧ Below w.heap.size w w' ∧ n ≤ c0 ∧ n + 1 ≤ 2 * lv ∧ 1 ≤ n ∧ (4 < C.length → 2 ≤ n) ∧ (fat = true → n ≤ C.length + 1)
theorem TreeIs.slots (h : TreeIs w0 w p t C c0 lv fat) : Calls Try.prog 29 #[.pointer (some ⟨t, 0, none⟩)] w (SlotsEnd w C c0 lv fat) := by
  obtain ⟨ρ, P, gens, free, D, rt, i, d, Ls, r, h1, h2, h3, h4, h5, h6, h7, h8⟩ := h
  refine (h3.slots h2).mono ?_
  rintro e w' ⟨he, hb⟩
  obtain ⟨s1, s2, s3⟩ := h3.tow.size h3.thk
  have s4 := h3.tow.le4 h4
  rw [h5] at s4
  have s5 : 0 < leaves Ls := Nat.lt_of_lt_of_le (Nat.pow_pos (by omega)) s2
  have s6 : leaves Ls ≤ nodes Ls := by
    obtain ⟨S, hS, _⟩ := h3.tow.level0
    rw [leaves_of hS]
    unfold nodes
    cases Ls with
    | nil => simp at hS
    | cons S' Ls =>
      simp at hS
      subst hS
      simp
  refine ⟨nodes Ls, he, hb, by omega, by omega, by omega, fun hc => by omega, fun hf => ?_⟩
  by_cases h2l : 2 ≤ leaves Ls
  · have := h3.tow.ge2 (h8 hf) h2l
    rw [h5] at this
    omega
  · omega
theorem TreeIs.put (h : TreeIs w0 w p t C c0 lv fat) {hh : Nat} (hlv : lv ≤ 10000) (hC : C.length ≤ 100000) (h2 : lv < 2 ^ hh) (h0 : 2 * lv + hh ≤ c0) (key value : Str) :
    Calls Try.prog 25 #[.pointer (some ⟨t, 0, none⟩), .string key, .string value] w fun e w' => e = .returned (.tuple #[.string ((cget C key).getD s0), .bool (cget C key).isSome, .int .i64 0]) ∧ TreeIs w0 w' p t (cput C key value) c0 (lv + 1) fat := by
  obtain ⟨ρ, P, gens, free, D, rt, i, d, Ls, r, h1, hB, h3, h4, h5, h6, h7, h8⟩ := h
  have hn := h3.tow.room h3.thk h6 h7 h2 h0 key
  refine (h3.put hB h4 (TreeIs.hll h3.tow h3.thk h7 hlv).1 (by omega) key value).mono ?_
  rintro e w' (⟨_, he, ρ', D', d', free', Ls', r', q1, q2, q3, q4, q5, q6, q7, q8, q9, q10, q11⟩ | ⟨_, hlt, _⟩)
  · rw [h5] at he q4 q5
    refine ⟨he, ρ', P, gens, free', D', rt, i, d', Ls', r', h1, q1, ?_, q6, q5, by omega, by omega, fun hf => q8 (h8 hf)⟩
    have hs : CSort C := by rw [← h5]; exact h3.tow.sorted
    rw [cput_len hs]
    exact q4
  · omega
theorem TreeIs.delete (h : TreeIs w0 w p t C c0 lv fat) (hlv : lv ≤ 10000) (hC : C.length ≤ 100000) (key : Str) :
    Calls Try.prog 26 #[.pointer (some ⟨t, 0, none⟩), .string key] w fun e w' => e = .returned (.tuple #[.string ((cget C key).getD s0), .bool (cget C key).isSome]) ∧ TreeIs w0 w' p t (cdel C key) c0 lv (fat && !(cget C key).isSome) := by
  obtain ⟨ρ, P, gens, free, D, rt, i, d, Ls, r, h1, hB, h3, h4, h5, h6, h7, h8⟩ := h
  have hs : CSort C := by rw [← h5]; exact h3.tow.sorted
  obtain ⟨l1, l2⟩ := cdel_len hs key
  refine (h3.delete hB (slim_flat h4) (TreeIs.hll h3.tow h3.thk h7 hlv).1 (by omega) key (by rw [h5]; exact l2)).mono ?_
  rintro e w' ⟨he, ρ', D', d', Ls', q1, q2, q3, q4, q5, q6, q7, q8, q9, q10⟩
  rw [h5] at he q2 q3 q9
  refine ⟨he, ρ', P, gens, free, D', rt, i, d', Ls', r, h1, q1, by rw [l1]; exact q2, q4 h4, q3, by omega, by omega, fun hf => ?_⟩
  cases hg : (cget C key).isSome
  · rw [q9 hg]
    rw [hg] at hf
    exact h8 (by simpa using hf)
  · rw [hg] at hf
    simp at hf
/-- A tree alone in its pool: as many slots are taken as it has nodes. -/
theorem TreeIs.live (h : TreeIs w0 w p t C c0 lv fat) : ∃ n : Nat, (fat = true → n ≤ C.length + 1) ∧ ∀ W, Below w.heap.size w W → (Calls Try.prog 29 #[.pointer (some ⟨t, 0, none⟩)] W fun e w' => e = .returned (.int .i64 n) ∧ Below W.heap.size W w') ∧ (Calls Try.prog 30 #[.pointer (some ⟨p, 0, none⟩)] W fun e w' => e = .returned (.int .i64 n) ∧ Below W.heap.size W w') := by
  obtain ⟨ρ, P, gens, free, D, rt, i, d, Ls, r, h1, h2, h3, h4, h5, h6, h7, h8⟩ := h
  refine ⟨nodes Ls, fun hf => ?_, fun W hW => ⟨(h3.below h2 hW).slots (h2.below hW), ?_⟩⟩
  · obtain ⟨s1, s2, s3⟩ := h3.tow.size h3.thk
    by_cases h2l : 2 ≤ leaves Ls
    · have := h3.tow.ge2 (h8 hf) h2l
      rw [h5] at this
      omega
    · omega
  · obtain ⟨pa, g, f⟩ := P
    obtain ⟨hp, _, _, _⟩ := (h2.below hW).ars.pool
    have hl := hp.1
    obtain ⟨h11, h12⟩ := h1
    simp only at h11
    subst h11
    refine (pLive_any _ g f gens free W hp).mono ?_
    rintro e w' ⟨he, hb⟩
    refine ⟨?_, hb⟩
    have hc : free.count true ≤ free.length := List.count_le_length
    rw [he]
    congr 2
    omega
/-- A new tree of a new pool. -/
theorem TreeIs.new {g f n : Nat} (hb : Below w0.heap.size w0 w) (hp : PoolIs w p g f (List.replicate n 1) (List.replicate n true)) (hl : w0.heap.size ≤ p ∧ w0.heap.size ≤ g ∧ w0.heap.size ≤ f) (hn : 1 ≤ n) :
    Calls Try.prog 11 #[.pointer (some ⟨p, 0, none⟩)] w fun e w' => ∃ t, e = .returned (.tuple #[.pointer (some ⟨t, 0, none⟩), .int .i64 0]) ∧ TreeIs w0 w' p t [] n 1 true := by
  have hpg := hp.2.2.1
  have hpf := hp.2.2.2.1
  have hgf := hp.2.2.2.2.1
  have hlp := heap_lt hp.2.2.2.2.2.1
  have hlg := heap_lt hp.2.2.2.2.2.2.1
  have hlf := heap_lt hp.2.2.2.2.2.2.2
  have hro : Ro w0 w (mark (mark (mark (fun _ => 0) p 1) g 2) f 3) := by
    refine ⟨hb, fun k hk => ?_, fun k hk => ?_⟩ <;> rw [mark_other (by omega), mark_other (by omega), mark_other (by omega)]
  have hB : BW w0 w (mark (mark (mark (fun _ => 0) p 1) g 2) f 3) (p, g, f) (List.replicate n 1) (List.replicate n true) [] :=
    ⟨hro, ⟨⟨hp, by rw [mark_other hpf, mark_other hpg, mark_self], by rw [mark_other hgf, mark_self], mark_self⟩, fun i d hd => by simp at hd⟩⟩
  have hin : true ∈ List.replicate n true := List.mem_replicate.2 ⟨by omega, rfl⟩
  refine (bkNew_some (rt := 4) hB hin (by omega)).mono ?_
  rintro e w' ⟨t, ρ', d, r, he, hB', hT', hU', _⟩
  refine ⟨t, he, ρ', (p, g, f), _, _, _, 4, 0, d, [[(r, leaf0)]], r, ⟨rfl, List.length_replicate⟩, hB', ?_, slim0 r, ?_, ?_, ?_, fun _ => .inl rfl⟩
  · exact hT'
  · simp [content, cont, BN.pairs, leaf0]
  · have := count_one hin
    have h2 : nodes [[(r, leaf0)]] = 1 := rfl
    rw [h2]
    simp only [List.count_replicate_self] at this ⊢
    omega
  · show leaves [[(r, leaf0)]] ≤ 1
    exact Nat.le_refl 1
end
end Go.Proofs.Ytlhobbfncjjeaaa
