/- The contract of a B-link tree's Put: what is so at its loop; plain steps. The contract of a B-link tree's Put: its walk. -/
import Derived.Test.YtlhobbfncjjeaaaBkPutL
import Derived.Test.YtlhobbfncjjeaaaBkSplitT
import Derived.Test.YtlhobbfncjjeaaaBkPut
namespace Go.Proofs.Ytlhobbfncjjeaaa
open Go.RowKit
theorem flat2 {Ls : List Lev} {j : Nat} {A B A' B' : Lev} {x y : Hd × BN} (hS : Ls[j]? = some (A ++ x :: B)) (hR : Ls[j + 1]? = some (A' ++ y :: B')) :
    ∃ X Y W1 W2, Ls.flatten = X ++ x :: Y ∧ X ++ Y = W1 ++ y :: W2 ∧ ∀ l1 l2 y', (y' :: l1 :: l2 :: (W1 ++ W2)).Perm ((Ls.set j (A ++ l1 :: l2 :: B)).set (j + 1) (A' ++ y' :: B')).flatten := by
  obtain ⟨hj, e1⟩ := List.getElem?_eq_some_iff.1 hR
  obtain ⟨hj0, e0⟩ := List.getElem?_eq_some_iff.1 hS
  have h1 : Ls = Ls.take j ++ (A ++ x :: B) :: (A' ++ y :: B') :: Ls.drop (j + 2) := by
    rw [← e1, ← e0, ← List.drop_eq_getElem_cons hj, ← List.drop_eq_getElem_cons hj0, List.take_append_drop]
  have hlen : (Ls.take j).length = j := by simp; omega
  generalize Ls.take j = T at *
  generalize Ls.drop (j + 2) = U at *
  subst h1
  refine ⟨T.flatten ++ A, B ++ (A' ++ y :: B') ++ U.flatten, T.flatten ++ A ++ B ++ A', B' ++ U.flatten, by simp, by simp, fun l1 l2 y' => ?_⟩
  have h2 : ((T ++ (A ++ x :: B) :: (A' ++ y :: B') :: U).set j (A ++ l1 :: l2 :: B)).set (j + 1) (A' ++ y' :: B') = T ++ (A ++ l1 :: l2 :: B) :: (A' ++ y' :: B') :: U := by
    rw [List.set_append_right _ _ (by omega), List.set_append_right _ _ (by omega), hlen]
    simp
  rw [h2]
  simp only [List.flatten_append, List.flatten_cons]
  have h3 : (T.flatten ++ (A ++ l1 :: l2 :: B ++ (A' ++ y' :: B' ++ U.flatten))) = (T.flatten ++ A) ++ l1 :: l2 :: (B ++ (A' ++ y' :: (B' ++ U.flatten))) := by simp
  rw [h3]
  refine List.Perm.symm ((List.perm_middle).trans ?_)
  refine (List.Perm.cons _ List.perm_middle).trans ?_
  have h4 : (T.flatten ++ A ++ (B ++ (A' ++ y' :: (B' ++ U.flatten)))) = (T.flatten ++ A ++ B ++ A') ++ y' :: (B' ++ U.flatten) := by simp
  rw [h4]
  refine (List.Perm.cons _ (List.Perm.cons _ List.perm_middle)).trans ?_
  exact (List.Perm.cons _ (List.Perm.swap _ _ _)).trans (List.Perm.swap _ _ _)
theorem flat1 {Ls : List Lev} {j : Nat} {x : Hd × BN} (hj1 : j + 1 = Ls.length) (hS : Ls[j]? = some [x]) :
    ∃ X Y, Ls.flatten = X ++ x :: Y ∧ ∀ l1 l2 tp : Hd × BN, (l1 :: l2 :: tp :: (X ++ Y)).Perm (Ls.set j [l1, l2] ++ [[tp]]).flatten := by
  obtain ⟨hj0, e0⟩ := List.getElem?_eq_some_iff.1 hS
  have h1 : Ls = Ls.take j ++ [[x]] := by
    have : Ls.drop (j + 1) = [] := List.drop_eq_nil_of_le (by omega)
    rw [← e0, ← this, ← List.drop_eq_getElem_cons hj0, List.take_append_drop]
  have hlen : (Ls.take j).length = j := by simp; omega
  generalize Ls.take j = T at *
  subst h1
  refine ⟨T.flatten, [], by simp, fun l1 l2 tp => ?_⟩
  rw [List.set_append_right _ _ (by omega), hlen]
  simp only [Nat.sub_self, List.set_cons_zero, List.flatten_append, List.flatten_cons, List.flatten_nil, List.append_nil]
  rw [List.append_assoc]
  refine List.Perm.symm ?_
  exact (List.perm_append_comm (l₁ := T.flatten) (l₂ := [l1, l2] ++ [tp]))
theorem pathOf_hdl {Ls : List Lev} {key : Str} {j : Nat} (hj : j < Ls.length) : (pathOf Ls key)[Ls.length - 1 - j]? = some (hdl key (Ls.getD j [])) := by
  unfold pathOf
  rw [List.getElem?_reverse (by simp; omega)]
  simp only [List.length_map]
  rw [show Ls.length - 1 - (Ls.length - 1 - j) = j by omega, List.getElem?_map, List.getD_eq_getElem?_getD, List.getElem?_eq_getElem hj]
  rfl
/-- What Put has done when it looks at level j. -/
structure PutW (w0 w wr : World) (ρ : Nat → Nat) (P : Nat × Nat × Nat) (gens : List Int) (D0 : List ArD) (c0 rt i t a size : Nat) (Ls0 : List Lev) (key : Str) (C : Cont) (r : Hd) (j : Nat) (h : Hd) (m : BN) (A B : Lev) (Ls : List Lev) (ρ' : Nat → Nat) (free' : List Bool) (D' : List ArD) (d' : ArD) : Prop where
  bw : BW w0 wr ρ' P gens free' D'
  ru : RU [1, 2, 3, 12 + 3 * i, 10 + 3 * i, rt] w wr ρ ρ'
  ad : d'.A.a = a
  tf : TF wr ρ' P D' rt i t d' Ls.flatten r size
  pi : PutI Ls0 key C r j h m A B Ls
  sd : SameD i D0 D'
  cn : free'.count true + nodes Ls = c0
  room : m.keys.length = 5 → 1 + needOf (Ls0.drop (j + 1)) key ≤ free'.count true
/-- What Put has done. -/
def PutF (w0 w : World) (ρ : Nat → Nat) (P : Nat × Nat × Nat) (gens : List Int) (D0 : List ArD) (c0 rt i t a size : Nat) (Ls0 : List Lev) (C : Cont) (w' : World) : Prop :=
  ∃ ρ' D' d' free' Ls' r', BW w0 w' ρ' P gens free' D' ∧ RU [1, 2, 3, 12 + 3 * i, 10 + 3 * i, rt] w w' ρ ρ' ∧ d'.A.a = a ∧ Tr w' ρ' P D' rt i t d' Ls' r' size ∧ content Ls' = C ∧ Slim Ls' ∧ leaves Ls' ≤ leaves Ls0 + 1 ∧ (Fat Ls0 → Fat Ls') ∧ SameD i D0 D' ∧ free'.count true + nodes Ls' = c0 ∧ Evo Ls0 Ls' ∧ (Few Ls0 → nodes Ls' = nodes Ls0)
section
variable {w0 w wr w1 w2 : World} {ρ ρ' : Nat → Nat} {P : Nat × Nat × Nat} {gens : List Int} {free free' : List Bool} {D D' D0 : List ArD} {c0 rt i t a : Nat} {d d' : ArD} {Ls0 Ls : List Lev} {key : Str} {C : Cont} {r h : Hd} {m : BN} {A B : Lev} {size j : Nat}
theorem Tr.sameA {w' : World} {Ls' : List Lev} {r' : Hd} {size' : Nat} (h : Tr w ρ P D rt i t d Ls r size) (h' : Tr w' ρ' P D' rt i t d' Ls' r' size') (hu : w'.cell? ⟨t, 1, none⟩ = w.cell? ⟨t, 1, none⟩) : d'.A.a = d.A.a := by
  rw [h.cells.2.1, h'.cells.2.1] at hu
  simpa using hu
/-- The leaf was written: the state at level 0. -/
theorem PutW.start {A B : Lev} {n : BN} {value : Str} (hT : Tr wr ρ' P D' rt i t d' (Ls0.set 0 (A ++ (h, n.put key value) :: B)) r size) (hB : BW w0 wr ρ' P gens free' D') (hU : RU [1, 2, 3, 12 + 3 * i, 10 + 3 * i, rt] w wr ρ ρ') (ha : d'.A.a = a) (hsd : SameD i D0 D') (hcn : free'.count true + nodes Ls0 = c0) {S : Lev} (hS : Ls0[0]? = some S) (hy : atK S key = some (h, n))
    (hlen : S.length = (A ++ (h, n.put key value) :: B).length) (hpi : PutI Ls0 key C r 0 h (n.put key value) A B (Ls0.set 0 (A ++ (h, n.put key value) :: B))) (hs : Slim Ls0) (hroom : hasK key n.keys = true ∨ needOf Ls0 key ≤ free'.count true) :
    PutW w0 w wr ρ P gens D0 c0 rt i t a size Ls0 key C r 0 h (n.put key value) A B (Ls0.set 0 (A ++ (h, n.put key value) :: B)) ρ' free' D' d' := by
  have hnn : nodes (Ls0.set 0 (A ++ (h, n.put key value) :: B)) = nodes Ls0 := by
    obtain ⟨X, Y, x1, x2⟩ := lev_set (S' := A ++ (h, n.put key value) :: B) hS
    have hlev := hpi.lev
    unfold nodes
    rw [x1, x2]
    obtain ⟨A2, B2, e2, _, _⟩ := atK_split hy
    have := hlen
    simp [this]
    omega
  refine ⟨hB, hU, ha, hT.form, hpi, hsd, by rw [hnn]; exact hcn, fun h5 => ?_⟩
  have h6 := (put_ends n key value).2.2.2.2.2
  have h4 : n.keys.length ≤ 4 := hs 0 S hS _ (atK_mem hy).1
  rcases hroom with h1 | h1
  · rw [h1] at h6; simp at h6; omega
  · have h2 := need_step (i := 0) hS hy
    have h3 : ¬ n.keys.length < 4 := fun hh => by split at h6 <;> omega
    rw [if_neg h3, List.drop_zero] at h2
    omega
theorem PutW.fin (hW : PutW w0 w wr ρ P gens D0 c0 rt i t a size Ls0 key C r j h m A B Ls ρ' free' D' d') (h4 : m.keys.length ≤ 4) : PutF w0 w ρ P gens D0 c0 rt i t a size Ls0 C wr := by
  refine ⟨ρ', D', d', free', Ls, r, hW.bw, hW.ru, hW.ad, hW.tf.tr (List.Perm.refl _) hW.pi.top hW.pi.tow hW.pi.thk, hW.pi.con, hW.pi.fin h4, ?_, hW.pi.fat, hW.sd, hW.cn, hW.pi.evo, fun hf => (hW.pi.few hf).2.2⟩
  have := hW.pi.lvs
  omega
theorem PutW.below (hW : PutW w0 w w1 ρ P gens D0 c0 rt i t a size Ls0 key C r j h m A B Ls ρ' free' D' d') (hb : Below w1.heap.size w1 w2) : PutW w0 w w2 ρ P gens D0 c0 rt i t a size Ls0 key C r j h m A B Ls ρ' free' D' d' :=
  ⟨hW.bw.below hb, hW.ru.trans ((RU.below (rs := []) hW.bw.ro hb).mono (by simp)), hW.ad, hW.tf.ru (RU.below (rs := []) hW.bw.ro hb) (by simp) (by simp), hW.pi, hW.sd, hW.cn, hW.room⟩
/-- A node that is too full and not the highest one: split's contract, and what is so behind it. -/
theorem PutW.up (hW : PutW w0 w w1 ρ P gens D0 c0 rt i t a size Ls0 key C r j h m A B Ls ρ' free' D' d') (h5 : m.keys.length = 5) (hj : j + 1 < Ls0.length) (hs0 : Slim Ls0) {pb po N c : Nat} (hN : N + 1 + j = Ls0.length) (hNs : N ≤ 1000)
    (hpb : ρ' pb = 0) (hp1 : w1.cell? ⟨pb, po + (N - 1) * 2, none⟩ = some (.int .i64 (hdl key (Ls0.getD (j + 1) [])).1)) (hp2 : w1.cell? ⟨pb, po + (N - 1) * 2 + 1, none⟩ = some (.int .u64 (hdl key (Ls0.getD (j + 1) [])).2)) :
    Calls Try.prog 57 #[.pointer (some ⟨t, 0, none⟩), .slice (some ⟨pb, po, none⟩) N c, .agg #[.int .i64 h.1, .int .u64 h.2]] w1 fun x w' => x = .returned (.tuple #[]) ∧
      ∃ h2 m2 A2 B2 Ls2 ρ2 free2 D2 d2, PutW w0 w w' ρ P gens D0 c0 rt i t a size Ls0 key C r (j + 1) h2 m2 A2 B2 Ls2 ρ2 free2 D2 d2 ∧ RU [1, 2, 3, 12 + 3 * i, 10 + 3 * i, rt] w1 w' ρ' ρ2 := by
  obtain ⟨A', hp, n, B', hR, hR0, hhp, hat, ⟨lo, hno⟩, hnl, hcv, hnk, hn4, hst⟩ := hW.pi.step h5 hj hs0
  obtain ⟨⟨lo2, hlo2⟩, hlf⟩ := hW.pi.node
  obtain ⟨X, Y, W1, W2, e1, e2, hperm⟩ := flat2 hW.pi.lev hR
  have hroom := hW.room h5
  have hfr : true ∈ free' := List.count_pos_iff.1 (by omega)
  have hsp : ∀ (nx : Hd) (W : World) (qka qva qha : Option Addr) (qkc qvc qhc : Nat), NodeAt W m qka qva qha qkc qvc qhc → Calls Try.prog 74 #[.agg #[.bool m.leaf, .slice qka m.keys.length qkc, .slice qva m.vals.length qvc, .slice qha m.kids.length qhc, .string m.high, .bool m.bnd, .int .i64 m.next.1, .int .u64 m.next.2], .agg #[.int .i64 nx.1, .int .u64 nx.2]] W (SEnd m nx W) := by
    intro nx W qka qva qha qkc qvc qhc hn
    by_cases hl : m.leaf = true
    · exact nSplit_leaf m qka qva qha qkc qvc qhc nx W hlo2 hn (by omega) hl (by omega)
    · exact nSplit_inner m qka qva qha qkc qvc qhc nx W hlo2 hn (by omega) (by simpa using hl) (by omega)
  refine (TF.split hW.bw hW.tf e1 hsp hfr (N := N) (c := c) (a := some ⟨pb, po, none⟩) (hp := hp) (n := n) (W1 := W1) (W2 := W2) (.inr ⟨by omega, hNs, e2, ⟨pb, po, rfl, hpb, by rw [hhp]; exact hp1, by rw [hhp]; exact hp2⟩, fun nx W qka qva qha qkc qvc qhc hn => nAdd_ok n qka qva qha qkc qvc qhc m.sep nx W hno hn (by omega) hnl hcv hnk⟩)).mono ?_
  rintro x w' ⟨hx, ρ2, D2, d2, nx, free2, hB2, hU2, hda2, hsd2, h2 | ⟨_, hcnt, hT2⟩⟩
  · omega
  · refine ⟨hx, _, _, _, _, _, ρ2, free2, D2, d2, ⟨hB2, hW.ru.trans hU2, by rw [hda2]; exact hW.ad, hT2.perm (hperm _ _ _), hst nx, hW.sd.trans hsd2, ?_, fun h6 => ?_⟩, hU2⟩
    · have h7 := (hperm (h, m.left nx) (nx, m.rightHalf) (hp, n.add m.sep nx)).length_eq
      have h8 := congrArg List.length e1
      have h9 := congrArg List.length e2
      have := hW.cn
      unfold nodes at this ⊢
      simp only [List.length_append, List.length_cons] at h7 h8 h9
      rw [← h7]
      omega
    have hadd : (n.add m.sep nx).keys.length = n.keys.length + 1 := by
      show (n.keys.insertIdx (cut m.sep n.keys) m.sep).length = _
      rw [List.length_insertIdx_of_le_length (cut_le _ _)]
    have := need_step hR0 hat
    rw [if_neg (by simp only; omega)] at this
    omega
/-- The highest node is too full. -/
theorem PutW.top (hW : PutW w0 w w1 ρ P gens D0 c0 rt i t a size Ls0 key C r j h m A B Ls ρ' free' D' d') (h5 : m.keys.length = 5) (hj : j + 1 = Ls0.length) {ad : Option Addr} {c : Nat} :
    Calls Try.prog 57 #[.pointer (some ⟨t, 0, none⟩), .slice ad 0 c, .agg #[.int .i64 h.1, .int .u64 h.2]] w1 fun x w' => x = .returned (.tuple #[]) ∧ PutF w0 w ρ P gens D0 c0 rt i t a size Ls0 C w' := by
  obtain ⟨⟨lo2, hlo2⟩, hlf⟩ := hW.pi.node
  have hl0 := hW.pi.len
  obtain ⟨rfl, rfl, _⟩ := hW.pi.stepTop h5 hj (0, 0) (0, 0)
  obtain ⟨X, Y, e1, hperm⟩ := flat1 (by omega) hW.pi.lev
  have hroom := hW.room h5
  have hnd : needOf (Ls0.drop (j + 1)) key = 1 := by rw [List.drop_eq_nil_of_le (by omega)]; rfl
  have hfr : true ∈ free' := List.count_pos_iff.1 (by omega)
  have hfr2 : true ∈ free'.set (free'.idxOf true) false := List.count_pos_iff.1 (by have := count_one hfr; omega)
  have hsp : ∀ (nx : Hd) (W : World) (qka qva qha : Option Addr) (qkc qvc qhc : Nat), NodeAt W m qka qva qha qkc qvc qhc → Calls Try.prog 74 #[.agg #[.bool m.leaf, .slice qka m.keys.length qkc, .slice qva m.vals.length qvc, .slice qha m.kids.length qhc, .string m.high, .bool m.bnd, .int .i64 m.next.1, .int .u64 m.next.2], .agg #[.int .i64 nx.1, .int .u64 nx.2]] W (SEnd m nx W) := by
    intro nx W qka qva qha qkc qvc qhc hn
    by_cases hl : m.leaf = true
    · exact nSplit_leaf m qka qva qha qkc qvc qhc nx W hlo2 hn (by omega) hl (by omega)
    · exact nSplit_inner m qka qva qha qkc qvc qhc nx W hlo2 hn (by omega) (by simpa using hl) (by omega)
  refine (TF.split hW.bw hW.tf e1 hsp hfr (N := 0) (c := c) (a := ad) (hp := (0, 0)) (n := m) (W1 := []) (W2 := []) (.inl ⟨rfl, hfr2⟩)).mono ?_
  rintro x w' ⟨hx, ρ2, D2, d2, nx, free2, hB2, hU2, hda2, hsd2, ⟨_, tp, hcnt, hT2⟩ | ⟨h2, _⟩⟩
  · obtain ⟨_, _, q1, q2, q3, q4, q5, q6, q7⟩ := hW.pi.stepTop h5 hj nx tp
    refine ⟨hx, ρ2, D2, d2, free2, _, tp, hB2, hW.ru.trans hU2, by rw [hda2]; exact hW.ad, hT2.tr (hperm _ _ _) ⟨newRoot m.sep h nx, ?_⟩ q1 q2, q4, q3, q5, q6, hW.sd.trans hsd2, ?_, q7, fun hf => by have := (hW.pi.few hf).2.1; omega⟩
    · simp
    · have h7 := (hperm (h, m.left nx) (nx, m.rightHalf) (tp, newRoot m.sep h nx)).length_eq
      have h8 := congrArg List.length e1
      have := hW.cn
      unfold nodes at this ⊢
      simp only [List.length_append, List.length_cons] at h7 h8
      rw [← h7]
      omega
  · omega
end
end Go.Proofs.Ytlhobbfncjjeaaa
namespace Go.Proofs.Ytlhobbfncjjeaaa
open Go.RowKit
section
variable {w0 w wr w1 w2 : World} {ρ ρ' : Nat → Nat} {P : Nat × Nat × Nat} {gens : List Int} {free free' : List Bool} {D D' : List ArD} {c0 rt i t a : Nat} {d d' : ArD} {Ls : List Lev} {key : Str} {C : Cont} {r : Hd} {size : Nat}
/-- What Put leaves: it is told, or there is no room. -/
def PutEnd (w0 w : World) (ρ : Nat → Nat) (P : Nat × Nat × Nat) (gens : List Int) (free : List Bool) (D : List ArD) (rt i t a size : Nat) (Ls : List Lev) (key value : Str) (e : Ending) (w' : World) : Prop :=
  (((cget (content Ls) key).isSome = true ∨ needOf Ls key ≤ free.count true) ∧ e = .returned (.tuple #[.string ((cget (content Ls) key).getD s0), .bool (cget (content Ls) key).isSome, .int .i64 0]) ∧
    PutF w0 w ρ P gens D (free.count true + nodes Ls) rt i t a (if (cget (content Ls) key).isSome then size else size + 1) Ls (cput (content Ls) key value) w') ∨
  ((cget (content Ls) key).isSome = false ∧ free.count true < needOf Ls key ∧ e = .returned (.tuple #[.string s0, .bool false, .int .i64 5]) ∧ Below w.heap.size w w')
def PutC (w0 w w1 : World) (ρ : Nat → Nat) (P : Nat × Nat × Nat) (gens : List Int) (free : List Bool) (D : List ArD) (c0 rt i t a sz : Nat) (Ls : List Lev) (key : Str) (C : Cont) (r hh : Hd) (m : BN) (wx : World) : Prop :=
  ∃ A B Ls1 ρ' D' d', PutW w0 w wx ρ P gens D c0 rt i t a sz Ls key C r 0 hh m A B Ls1 ρ' free D' d' ∧ RU [1, 2, 3, 12 + 3 * i, 10 + 3 * i, rt] w1 wx ρ ρ'
/-- At the head of Put's loop: level j is looked at, k nodes of the path are above it; or all is done. -/
def PutR (w0 w w1 : World) (ρ : Nat → Nat) (P : Nat × Nat × Nat) (gens : List Int) (D : List ArD) (c0 rt i t a sz : Nat) (Ls : List Lev) (key : Str) (C : Cont) (r : Hd) (N gk : Nat) (v : Value) (wr : World) : Prop :=
  (∃ (k j : Nat) (hh : Hd) (m : BN) (A B : Lev) (Ls1 : List Lev) (ρ1 : Nat → Nat) (free1 : List Bool) (D1 : List ArD) (d1 : ArD), gk = k + 1 ∧ v = .int .i64 k ∧ k + j + 1 = N ∧ PutW w0 w wr ρ P gens D c0 rt i t a sz Ls key C r j hh m A B Ls1 ρ1 free1 D1 d1 ∧ RU [1, 2, 3, 12 + 3 * i, 10 + 3 * i, rt] w1 wr ρ ρ1) ∨ (gk = 0 ∧ v = .int .i64 (-1) ∧ PutF w0 w ρ P gens D c0 rt i t a sz Ls C wr)
/-- A node that is too full: the next round's state. -/
theorem PutW.next {j k N sz pb pc : Nat} {hh : Hd} {m : BN} {A B : Lev} {Ls1 : List Lev} (hW : PutW w0 w wr ρ P gens D c0 rt i t a sz Ls key C r j hh m A B Ls1 ρ' free' D' d') (hU : RU [1, 2, 3, 12 + 3 * i, 10 + 3 * i, rt] w1 wr ρ ρ') (h5 : m.keys.length = 5) (hkj : k + j + 1 = N) (hN : N = Ls.length) (hN1 : N ≤ 1000) (hs : Slim Ls) (hpb : ρ' pb = 0)
    (hp : 0 < k → wr.cell? ⟨pb, (k - 1) * 2, none⟩ = some (.int .i64 (hdl key (Ls.getD (j + 1) [])).1) ∧ wr.cell? ⟨pb, (k - 1) * 2 + 1, none⟩ = some (.int .u64 (hdl key (Ls.getD (j + 1) [])).2)) {W : World} (hW2 : Below wr.heap.size wr W) :
    Calls Try.prog 57 #[.pointer (some ⟨t, 0, none⟩), .slice (some ⟨pb, 0, none⟩) k pc, .agg #[.int .i64 hh.1, .int .u64 hh.2]] W fun x w' => x = .returned (.tuple #[]) ∧ PutR w0 w w1 ρ P gens D c0 rt i t a sz Ls key C r N k (.int .i64 ((k : Int) - 1)) w' := by
  have hU2 := hU.trans ((RU.below (rs := []) hW.bw.ro hW2).mono (rs' := [1, 2, 3, 12 + 3 * i, 10 + 3 * i, rt]) (by simp))
  replace hW := hW.below hW2
  by_cases h0 : k = 0
  · subst h0
    refine (hW.top h5 (by omega)).mono ?_
    rintro x w' ⟨hx, hf⟩
    exact ⟨hx, .inr ⟨rfl, rfl, hf⟩⟩
  · obtain ⟨hp1, hp2⟩ := hp (by omega)
    refine (hW.up h5 (by omega) hs (pb := pb) (po := 0) (N := k) (c := pc) (by omega) (by omega) hpb (by rw [Nat.zero_add]; exact keep hW2 hp1) (by rw [Nat.zero_add]; exact keep hW2 hp2)).mono ?_
    rintro x w' ⟨hx, h2, m2, A2, B2, Ls2, ρ2, free2, D2, d2, hW3, hU3⟩
    refine ⟨hx, .inl ⟨k - 1, j + 1, h2, m2, A2, B2, Ls2, ρ2, free2, D2, d2, by omega, ?_, by omega, hW3, hU2.trans hU3⟩⟩
    rw [show (k : Int) - 1 = ((k - 1 : Nat) : Int) by omega]
set_option maxRecDepth 100000 in
set_option maxHeartbeats 4000000 in
theorem Tr.put (hB : BW w0 w ρ P gens free D) (h : Tr w ρ P D rt i t d Ls r size) (hs : Slim Ls) (hll : Ls.length ≤ 1000) (hsz : size ≤ 1000000) (key value : Str) :
    Calls Try.prog 25 #[.pointer (some ⟨t, 0, none⟩), .string key, .string value] w (PutEnd w0 w ρ P gens free D rt i t d.A.a size Ls key value) := by
  have hsm : ∀ x, x ∈ Ls.flatten → x.2.keys.length ≤ 1000 := fun x hx => by
    obtain ⟨R, hR, hx⟩ := List.mem_flatten.1 hx
    obtain ⟨k, hk⟩ := List.mem_iff_getElem?.1 hR
    have := hs k R hk x hx
    omega
  obtain ⟨S, y, hS, hy⟩ := h.leaf0 key
  obtain ⟨⟨lo, hno⟩, hlf, hg⟩ := h.tow.get hS hy
  have hks := hsm _ (mem_flat hS (atK_mem hy).1)
  have hyc := (atK_mem hy).2
  have hPa := Lib.hid (h.path hB hsm hll key)
  obtain ⟨c0, c1, c2, c3, c4, c5, hq⟩ := h.cells
  have hn := none_ok c1
  obtain ⟨e, he, e1, e2, qka, qva, qha, qkc, qvc, qhc, hnat, hcel0, hG⟩ := h.entry hB (mem_flat hS (atK_mem hy).1)
  have hpg := pathOf_get hS hy
  obtain ⟨N, hN⟩ : ∃ N, N = Ls.length := ⟨_, rfl⟩
  have hN0 : 0 < N := by have := (List.getElem?_eq_some_iff.1 hS).1; omega
  have hN1 : N ≤ 1000 := by omega
  rw [← hN, Nat.sub_zero] at hpg
  have hlen : (pathOf Ls key).length = N := by rw [pathOf_len, hN]
  have hPt := Lib.hid fun W hW => nPut_ok y.2 qka qva qha qkc qvc qhc key value W hno (hnat.below (w' := W) _ _ _ _ _ _ _ hW) hks hlf hyc
  have hF := Lib.hid fun W (hW : Below w.heap.size w W) => nFind_any y.2.leaf qka y.2.keys.length qkc qva y.2.vals.length qvc qha y.2.kids.length qhc y.2.high y.2.bnd y.2.next.1 y.2.next.2 y.2.keys key W (hnat.1.below hW) rfl
  obtain ⟨nd, hnd⟩ : ∃ nd : Nat, nd = needOf Ls key := ⟨_, rfl⟩
  obtain ⟨rm, hrm⟩ : ∃ rm : Bool, rm = decide ((nd : Int) ≤ (free.count true : Nat)) := ⟨_, rfl⟩
  have hNd := Lib.hid fun W (hW : Below w.heap.size w W) base a c hrow => (h.below hB hW).need (hB.below hW) hll key (base := base) (a := a) (c := c) hrow
  have hRm := Lib.hid fun W (hW : Below w.heap.size w W) => pRoom_any P.1 P.2.1 P.2.2 gens free (nd : Int) W (hB.below hW).ars.pool.1
  rw [← hrm] at hRm
  rw [← hnd, ← hN] at hNd
  have hrm' : Hid (rm = decide (nd ≤ free.count true)) := Lib.hid (by rw [hrm]; exact decide_eq_decide.2 (by omega))
  have hnd2 := Lib.hid (And.intro hnd hrm)
  clear hrm
  have htq := h.neq hB he
  have hBh := Lib.hid (And.intro hB h)
  have hee := Lib.hid (And.intro he (And.intro e1 e2))
  have hsl := Lib.hid hs
  have hll' := Lib.hid hll
  replace hno := Lib.hid hno
  have hSy := Lib.hid (And.intro hS hy)
  clear hB h hsm hs hll hnat he e1 e2 hyc hS hy
  obtain ⟨⟨h1, h2⟩, n⟩ := y
  simp only at hPt hF hcel0 hG hpg hks hlf ⊢
  obtain ⟨x1, x2, x3, x4, x5, x6, x7, x8⟩ := node_cells1 n qka qva qha qkc qvc qhc hcel0
  have hxs := Lib.hid (And.intro x1 (And.intro x2 (And.intro x3 (And.intro x4 (And.intro x5 (And.intro x6 (And.intro x7 x8)))))))
  clear x1 x2 x3 x4 x5 x6 x7 x8
  replace hcel0 := Lib.hid hcel0
  replace hG := Lib.hid hG
  replace hpg := Lib.hid hpg
  replace hN := Lib.hid hN
  replace hlen := Lib.hid hlen
  obtain ⟨m, hm⟩ : ∃ m, m = n.put key value := ⟨_, rfl⟩
  replace hnd := Lib.hid hnd
  obtain ⟨od, hod⟩ : ∃ od, od = n.old key := ⟨_, rfl⟩
  obtain ⟨had, hhad⟩ : ∃ had, had = hasK key n.keys := ⟨_, rfl⟩
  have hold : Hid (had = false → od = s0) := Lib.hid (fun hf => by rw [hhad] at hf; rw [hod]; simp [BN.old, hf])
  simp only at hg
  rw [← hm, ← hod, ← hhad] at hPt
  rw [← hhad] at hF
  have hE1 : Hid (∀ w', had = false → rm = false → Below w.heap.size w w' → PutEnd w0 w ρ P gens free D rt i t d.A.a size Ls key value (.returned (.tuple #[.string s0, .bool false, .int .i64 5])) w') := Lib.hid (by
    intro w' h1 h2 hb
    refine Or.inr ⟨?_, ?_, rfl, hb⟩
    · rw [hg, ← hhad, h1]; rfl
    · have := hrm'.out
      rw [h2] at this
      simp at this
      have := hnd.out
      omega)
  have hE2 : Hid (∀ w', (had = true ∨ rm = true) → PutF w0 w ρ P gens D (free.count true + nodes Ls) rt i t d.A.a (if had then size else size + 1) Ls (cput (content Ls) key value) w' → PutEnd w0 w ρ P gens free D rt i t d.A.a size Ls key value (.returned (.tuple #[.string od, .bool had, .int .i64 0])) w') := Lib.hid (by
    intro w' h1 hf
    have g1 : (cget (content Ls) key).isSome = had := by rw [hg, ← hhad]; cases had <;> rfl
    have g2 : (cget (content Ls) key).getD s0 = od := by
      rw [hg, ← hhad, ← hod]
      cases had
      · exact (hold.out rfl).symm
      · rfl
    refine .inl ⟨?_, ?_, ?_⟩
    · rw [g1]
      rcases h1 with h1 | h1
      · exact .inl h1
      · right
        have := hrm'.out
        rw [h1] at this
        simp at this
        have := hnd.out
        omega
    · rw [g1, g2]
    · rw [g1]; exact hf)
  clear hg
  obtain ⟨ix, hix⟩ : ∃ ix, ix = cut key n.keys := ⟨_, rfl⟩
  rw [← hix] at hF
  replace hix := Lib.hid hix
  replace hm := Lib.hid hm
  replace hod := Lib.hid hod
  replace hhad := Lib.hid hhad
  replace hlf := Lib.hid hlf
  go_enter Try.func25, Try.ntmps25
  go_wp2_with fail
  refine hn.mono ?_
  rintro z w1 ⟨rfl, rfl⟩
  go_wp2_with fail
  refine hPa.out.mono ?_
  clear hPa hn
  rintro z w1 ⟨pa, pc, rfl, hrow, hb1⟩
  rw [hlen.out]
  obtain ⟨pb, pcap, ev, hpbase, hc1, hc2, hc3, hc4, hc5, hat⟩ := hrow.at hpg.out
  injection ev with ev hle ev2
  clear hle
  subst ev ev2
  have hNpc : N ≤ pc := by have := hlen.out; omega
  have k0 := hat 0 _ rfl
  have k1 := hat 1 _ rfl
  clear hat hc3 hc5
  rw [hlen.out] at hrow
  have hrow' := Lib.hid hrow
  clear hrow
  rw [Nat.add_zero] at k0
  have c1' := keep hb1 c1
  obtain ⟨p, hp⟩ : ∃ p, p = N - 1 := ⟨_, rfl⟩
  rw [← hp] at k0 k1
  have hw1 : IntKind.i64.wrap ((N : Int) - 1) = (p : Int) := by rw [show ((N : Int) - 1) = (p : Int) by omega]; exact IntWalk.i64_in _ (by omega)
  have hp1 : p < N := by omega
  have hp2 : (p : Int) < (N : Int) := by omega
  have hqw := block_lt_of_cell hxs.out.1
  replace hp := Lib.hid hp
  replace hb1 := Lib.hid hb1
  go_upto_region 6 with fail
  go_cut [10] (fun v wx => v = .pointer (some ⟨e.blk, 1, none⟩) ∧ Below w1.heap.size w1 wx)
  case first =>
    go_region_with (go_at_call 52; refine (hG.out _ hb1.out.drew).mono ?_; rintro z1 w2 ⟨rfl, hb2⟩; have hbw := (Below.refl w1.heap.size w1).drew.trans hb2; replace hbw := Lib.hid hbw; clear hb2)
    all_goals
      go_wp2_with fail
      go_meet
      exact ⟨rfl, hbw.out⟩
  case rest =>
    obtain ⟨rfl, hb2⟩ := hcut
    clear k0 k1 hw1 hp1 hp2 c1' hG
    have hbw := hb1.out.trans (hb2.mono hb1.out.size)
    obtain ⟨y1, y2, y3, y4, y5, y6, y7, y8⟩ := hxs.out
    have x1 := keep hbw y1
    have x2 := keep hbw y2
    have x3 := keep hbw y3
    have x4 := keep hbw y4
    have x5 := keep hbw y5
    have x6 := keep hbw y6
    have x7 := keep hbw y7
    have x8 := keep hbw y8
    clear y1 y2 y3 y4 y5 y6 y7 y8
    have hfl := Lib.hid (hF.out wc hbw)
    clear hF
    replace hbw := Lib.hid hbw
    replace hb2 := Lib.hid hb2
    go_wp2_with fail
    refine hfl.out.mono ?_
    clear hfl x1 x2 x3 x4 x5 x6 x7 x8
    rintro z w3 ⟨rfl, hb3⟩
    have hb3w := Lib.hid (hbw.out.trans (hb3.mono hbw.out.size))
    have hb31 := Lib.hid (hb2.out.trans (hb3.mono hb2.out.size))
    clear hb3 hbw hb2
    go_upto_region 8 with fail
    have cN : ∀ d os, _ := fun d os => rg_below (hNd.out (Sort.grow (redrawn w3 d) os) (hb3w.out.trans ((below_regrown w3 d os).mono hb3w.out.size)) w.heap.size (some ⟨pb, 0, none⟩) pc (hrow'.out.below (hb31.out.trans ((below_regrown w3 d os).mono hb31.out.size))))
    have cR : ∀ d os, _ := fun d os => rg_below (hRm.out (Sort.grow (redrawn w3 d) os) (hb3w.out.trans ((below_regrown w3 d os).mono hb3w.out.size)))
    have q0 := keep hb3w.out c0
    have q1 := keep hb3w.out c1
    go_cut [60] (fun v wx => v = .bool (!had && !rm) ∧ Below w3.heap.size w3 wx)
    case first =>
      have k0 := cell_regrown q0
      have k1 := cell_regrown q1
      cases had with
      | true =>
        refine wp_region_quiet_below (by kernel_rfl) (by kernel_rfl) ?_
        repeat (first | go_big_quiet_step (fail) | quiet_step (fail))
        refine wpQuiet_nil ?_
        intro w4 hw4
        obtain ⟨⟨dq, osq⟩, hw5⟩ := hw4
        have hb4 := below_regrown w3 dq osq
        rw [← hw5] at hb4
        clear hw5 k0 k1
        simp only [Exit.then]
        go_wp2_with fail
        go_meet
        exact ⟨rfl, hb4⟩
      | false =>
        refine wp_region_quiet_below (by kernel_rfl) (by kernel_rfl) ?_
        repeat (first | go_big_quiet_step (first | (go_at_call 54; exact cN _ _) | (go_at_call 53; exact cR _ _)) | quiet_step (first | (go_at_call 54; exact cN _ _) | (go_at_call 53; exact cR _ _)))
        refine wpQuiet_nil ?_
        intro w4 hw4
        obtain ⟨⟨dq, osq⟩, hw5⟩ := hw4
        have hb4 := below_regrown w3 dq osq
        rw [← hw5] at hb4
        clear hw5 k0 k1
        simp only [Exit.then]
        go_wp2_with fail
        go_meet
        exact ⟨by simp, hb4⟩
    case rest =>
      obtain ⟨rfl, hb4⟩ := hcut
      clear q0 q1 cN cR hNd hRm
      have hb4w := Lib.hid (hb3w.out.trans (hb4.mono hb3w.out.size))
      have hb41 := Lib.hid (hb31.out.trans (hb4.mono hb31.out.size))
      clear hb3w hb31 hb4
      by_cases hfull : had = false ∧ rm = false
      · obtain ⟨rfl, rfl⟩ := hfull
        go_wp2_with fail
        go_ret3
        exact hE1.out _ (by trivial) (by trivial) hb4w.out
      · have hv : (!had && !rm) = false := by cases had <;> cases rm <;> simp_all
        rw [hv]
        have hor := Lib.hid (show had = true ∨ rm = true by
          rcases Bool.eq_false_or_eq_true had with h1 | h1
          · exact .inl h1
          · rcases Bool.eq_false_or_eq_true rm with h2 | h2
            · exact .inr h2
            · exact absurd ⟨h1, h2⟩ hfull)
        have hroom : Hid (hasK key n.keys = true ∨ needOf Ls key ≤ free.count true) := Lib.hid (by
          rw [← hhad.out, ← hnd.out]
          rcases hor.out with h1 | h1
          · exact .inl h1
          · right
            have := hrm'.out
            rw [h1] at this
            simpa using this)
        replace hfull := Lib.hid hfull
        clear hv
        obtain ⟨y1, y2, y3, y4, y5, y6, y7, y8⟩ := hxs.out
        have x1 := keep hb4w.out y1
        have x2 := keep hb4w.out y2
        have x3 := keep hb4w.out y3
        have x4 := keep hb4w.out y4
        have x5 := keep hb4w.out y5
        have x6 := keep hb4w.out y6
        have x7 := keep hb4w.out y7
        have x8 := keep hb4w.out y8
        clear y1 y2 y3 y4 y5 y6 y7 y8
        have hcl := Lib.hid (hPt.out wc hb4w.out)
        clear hPt
        generalize hqe : e.blk = q at *
        replace hqe := Lib.hid hqe
        go_wp2_with fail
        refine hcl.out.mono ?_
        clear hcl x1 x2 x3 x4 x5 x6 x7 x8
        rintro z w5 ⟨qka2, qva2, qha2, qkc2, qvc2, qhc2, rfl, hown, hb5⟩
        have hb5w := hb4w.out.trans (hb5.mono hb4w.out.size)
        have hb51 := hb41.out.trans (hb5.mono hb41.out.size)
        have hq5 := Below.heap' hb5w hcel0.out
        obtain ⟨x1, x2, x3, x4, x5, x6, x7, x8⟩ := node_cells1 n qka qva qha qkc qvc qhc hq5
        have y := fun k => frozen_of_heap hq5 k
        obtain ⟨f1, f2, f3, f4, f5, f6, f7, f8⟩ := And.intro (y 1) (And.intro (y 2) (And.intro (y 3) (And.intro (y 4) (And.intro (y 5) (And.intro (y 6) (And.intro (y 7) (y 8)))))))
        have hqq := heap_lt hq5
        clear y
        have hfin : Hid (∃ A B, S = A ++ ((h1, h2), n) :: B ∧ PutI Ls key (cput (content Ls) key value) r 0 (h1, h2) (n.put key value) A B (Ls.set 0 (A ++ ((h1, h2), n.put key value) :: B)) ∧ ∃ ρ' D' d', BW w0 (World.setCell (World.setCell (World.setCell (World.setCell (World.setCell (World.setCell (World.setCell (World.setCell w5 ⟨q, 1, none⟩ (.bool m.leaf)) ⟨q, 2, none⟩ (.slice qka2 m.keys.length qkc2)) ⟨q, 3, none⟩ (.slice qva2 m.vals.length qvc2)) ⟨q, 4, none⟩ (.slice qha2 m.kids.length qhc2)) ⟨q, 5, none⟩ (.string m.high)) ⟨q, 6, none⟩ (.bool m.bnd)) ⟨q, 7, none⟩ (.int .i64 m.next.1)) ⟨q, 8, none⟩ (.int .u64 m.next.2)) ρ' P gens free D' ∧ Tr (World.setCell (World.setCell (World.setCell (World.setCell (World.setCell (World.setCell (World.setCell (World.setCell w5 ⟨q, 1, none⟩ (.bool m.leaf)) ⟨q, 2, none⟩ (.slice qka2 m.keys.length qkc2)) ⟨q, 3, none⟩ (.slice qva2 m.vals.length qvc2)) ⟨q, 4, none⟩ (.slice qha2 m.kids.length qhc2)) ⟨q, 5, none⟩ (.string m.high)) ⟨q, 6, none⟩ (.bool m.bnd)) ⟨q, 7, none⟩ (.int .i64 m.next.1)) ⟨q, 8, none⟩ (.int .u64 m.next.2)) ρ' P D' rt i t d' (Ls.set 0 (A ++ ((h1, h2), n.put key value) :: B)) r size ∧ RU [10 + 3 * i] w1 (World.setCell (World.setCell (World.setCell (World.setCell (World.setCell (World.setCell (World.setCell (World.setCell w5 ⟨q, 1, none⟩ (.bool m.leaf)) ⟨q, 2, none⟩ (.slice qka2 m.keys.length qkc2)) ⟨q, 3, none⟩ (.slice qva2 m.vals.length qvc2)) ⟨q, 4, none⟩ (.slice qha2 m.kids.length qhc2)) ⟨q, 5, none⟩ (.string m.high)) ⟨q, 6, none⟩ (.bool m.bnd)) ⟨q, 7, none⟩ (.int .i64 m.next.1)) ⟨q, 8, none⟩ (.int .u64 m.next.2)) ρ ρ' ∧ d'.A.a = d.A.a ∧ SameD i D D') := Lib.hid (by
          obtain ⟨hB0, hT0⟩ := hBh.out
          obtain ⟨A, B, eS, hpi⟩ := hT0.tow.put hT0.thk hsl.out hT0.top hSy.out.1 hSy.out.2 value
          have hB1 := hB0.below hb1.out
          have hT1 := hT0.below hB0 hb1.out
          obtain ⟨hst, hup⟩ := node_stored1 (n2 := m) (qka2 := qka2) (qva2 := qva2) (qha2 := qha2) (qkc2 := qkc2) (qvc2 := qvc2) (qhc2 := qhc2) hq5
          rw [← hqe.out] at hst hup ⊢
          rw [hm.out] at hst hup ⊢
          rw [hm.out] at hown
          obtain ⟨ρ', D', d', hB', hT', hU', hsd'⟩ := hT1.turn hB1 (n.put key value) qka2 qva2 qha2 qkc2 qvc2 qhc2 (by rw [hSy.out.1, eS]) hee.out.1 hee.out.2.1 hee.out.2.2 hb51 hown.at (hown.fresh.mono hb41.out.size) hup hst hpi.tow hpi.thk
          have hrt := hT1.rt4
          refine ⟨A, B, eS, hpi, ρ', D', d', hB', hT', hU', hT1.sameA hT' ?_, hsd'⟩
          exact World.cell?_of_block (hU'.block t (heap_lt hT1.blk) (by rw [hT1.rol]; simp; omega)))
        have htb0 := Below.heap' hb5w hBh.out.2.blk
        have hup5 := (node_stored1 (n2 := m) (qka2 := qka2) (qva2 := qva2) (qha2 := qha2) (qkc2 := qkc2) (qvc2 := qvc2) (qhc2 := qhc2) hq5).2
        have htq' : t ∉ [q] := by simpa using htq
        have htb := hup5.heap htb0 htq'
        replace hup5 := Lib.hid hup5
        clear hown hq5 c0 c1 c2 c3 c4 c5 hq hqw htb0
        replace htb := Lib.hid htb
        have hsz8 : IntKind.i64.wrap ((size : Int) + 1) = (size : Int) + 1 := IntWalk.i64_in _ (by omega)
        go_upto_if 74 with fail
        clear x1 x2 x3 x4 x5 x6 x7 x8 f1 f2 f3 f4 f5 f6 f7 f8 hqq
        generalize (World.setCell (World.setCell (World.setCell (World.setCell (World.setCell (World.setCell (World.setCell (World.setCell w5 ⟨q, 1, none⟩ (.bool m.leaf)) ⟨q, 2, none⟩ (.slice qka2 m.keys.length qkc2)) ⟨q, 3, none⟩ (.slice qva2 m.vals.length qvc2)) ⟨q, 4, none⟩ (.slice qha2 m.kids.length qhc2)) ⟨q, 5, none⟩ (.string m.high)) ⟨q, 6, none⟩ (.bool m.bnd)) ⟨q, 7, none⟩ (.int .i64 m.next.1)) ⟨q, 8, none⟩ (.int .u64 m.next.2)) = w6 at *
        have c4' : w6.cell? ⟨t, 4, none⟩ = some (.int .i64 size) := by rw [cell_of_heap htb.out]; rfl
        have ft : w6.frozen? ⟨t, 4, none⟩ = false := frozen_of_heap htb.out _
        have hqt := heap_lt htb.out
        obtain ⟨sz, hsz'⟩ : ∃ sz, sz = if had then size else size + 1 := ⟨_, rfl⟩
        rw [← hsz'] at hE2
        replace hsz' := Lib.hid hsz'
        have hC1 : Hid (had = true → PutC w0 w w1 ρ P gens free D (free.count true + nodes Ls) rt i t d.A.a sz Ls key (cput (content Ls) key value) r (h1, h2) m w6) := Lib.hid (by
          intro hz
          obtain ⟨A, B, eS, hpi, ρ', D', d', hB', hT', hU', hda', hsd'⟩ := hfin.out
          have hw01 := ((RU.below (rs := []) hBh.out.1.ro hb1.out).mono (rs' := [1, 2, 3, 12 + 3 * i, 10 + 3 * i, rt]) (by simp)).trans (hU'.mono (by simp))
          refine ⟨A, B, (Ls.set 0 (A ++ ((h1, h2), n.put key value) :: B)), ρ', D', d', ?_, hU'.mono (by simp)⟩
          rw [show sz = size by rw [hsz'.out, hz]; rfl, hm.out]
          exact PutW.start hT' hB' hw01 hda' hsd' rfl hSy.out.1 hSy.out.2 (by rw [eS]; simp) hpi hsl.out hroom.out)
        have hC2 : Hid (had = false → PutC w0 w w1 ρ P gens free D (free.count true + nodes Ls) rt i t d.A.a sz Ls key (cput (content Ls) key value) r (h1, h2) m (w6.setCell ⟨t, 4, none⟩ (.int .i64 ((size : Int) + 1)))) := Lib.hid (by
          intro hz
          obtain ⟨A, B, eS, hpi, ρ', D', d', hB', hT', hU', hda', hsd'⟩ := hfin.out
          obtain ⟨hB2, hT2, hU2⟩ := hT'.setSize hB' (size + 1)
          have hw01 := ((RU.below (rs := []) hBh.out.1.ro hb1.out).mono (rs' := [1, 2, 3, 12 + 3 * i, 10 + 3 * i, rt]) (by simp)).trans ((hU'.mono (by simp)).trans (hU2.mono (by simp)))
          refine ⟨A, B, (Ls.set 0 (A ++ ((h1, h2), n.put key value) :: B)), ρ', D', d', ?_, (hU'.mono (by simp)).trans (hU2.mono (by simp))⟩
          rw [show sz = size + 1 by rw [hsz'.out, hz]; rfl, hm.out]
          exact PutW.start hT2 hB2 hw01 hda' hsd' rfl hSy.out.1 hSy.out.2 (by rw [eS]; simp) hpi hsl.out hroom.out)
        go_cut [] (fun wx => PutC w0 w w1 ρ P gens free D (free.count true + nodes Ls) rt i t d.A.a sz Ls key (cput (content Ls) key value) r (h1, h2) m wx)
        case first =>
          cases had with
          | true =>
            go_wp2_with fail
            go_meet
            exact hC1.out (by trivial)
          | false =>
            go_wp2_with fail
            go_meet
            exact hC2.out (by trivial)
        case rest =>
          obtain ⟨A, B, Ls1, ρ1, D1, d1, hW0, hUw⟩ := hcut
          have hpb0 : ρ pb = 0 := hBh.out.1.ro.far pb hc1
          have hrow1 := Lib.hid (fun wr ρ' (hU : RU [1, 2, 3, 12 + 3 * i, 10 + 3 * i, rt] w1 wr ρ ρ') => RU.row hU hrow'.out (fun b hb => by
            have : b = pb := by simpa [Value.ownBlock] using hb.symm
            rw [this, hpb0]
            have := hBh.out.2.rt4
            simp
            omega))
          have hpl := Lib.hid (fun j (hj : j < N) => show (pathOf Ls key)[N - 1 - j]? = some (hdl key (Ls.getD j [])) by
            have := pathOf_hdl (key := key) (show j < Ls.length by rw [← hN.out]; exact hj)
            rw [← hN.out] at this
            exact this)
          have hrol := Lib.hid (fun wr ρ' (hU : RU [1, 2, 3, 12 + 3 * i, 10 + 3 * i, rt] w1 wr ρ ρ') => show ρ' pb = 0 by rw [hU.role pb hc2, hpb0])
          have hsp : Hid (∀ k j, k + j + 1 = N → j < Ls.length) := Lib.hid (fun k j hk => by have := hN.out; omega)
          have hNl := hN
          clear hfin hC1 hC2 hxs hcel0 htb hup5 hroom hE1 hold hrm' hhad hod hm hix hee hfull hb5w hb51 hb4w hb41 hb5 c4' ft hqt hsz8 htq' hpg hN hlen
          have hwm : IntKind.i64.wrap ((N : Int) - 1) = (p : Int) := by have := hp.out; rw [show ((N : Int) - 1) = (p : Int) by omega]; exact IntWalk.i64_in _ (by omega)
          go_wp2_with fail
          go_loopg [14] N (fun gk v wr => PutR w0 w w1 ρ P gens D (free.count true + nodes Ls) rt i t d.A.a sz Ls key (cput (content Ls) key value) r N gk v wr)
          case atStart =>
            exact .inl ⟨p, 0, _, _, A, B, Ls1, ρ1, free, D1, d1, by have := hp.out; omega, rfl, by have := hp.out; omega, hW0, hUw⟩
          case round =>
            clear hW0 hUw hwm
            rcases hrel with ⟨k, j, hh, m, A, B, Ls1, ρ1, free1, D1, d1, rfl, rfl, hkj, hW, hU⟩ | ⟨rfl, rfl, hF⟩
            · obtain ⟨u, hu0, u1, u2, ⟨qka1, qva1, qha1, qkc1, qvc1, qhc1, exu, hatu, fu1, fu2, fu3⟩, hcelu, hGu⟩ := hW.tf.entry hW.bw (mem_flat hW.pi.lev (x := (hh, m)) (by simp))
              rw [hW.ad] at hGu
              rw [exu] at hcelu
              have hjL := hsp.out k j hkj
              have hle5 := hW.pi.le5
              have hrk := hrow1.out wr ρ1 hU
              have hh1 := hW.pi.hdl
              obtain ⟨pb2, cap2, ev, _, _, hd2, hd3, hd4, hd5, hat⟩ := hrk.at (i := k) (x := hh) (by have := hpl.out j (by omega); rw [show N - 1 - j = k by omega, ← hh1] at this; exact this)
              injection ev with ev el ec
              clear el ec
              injection ev with ev
              injection ev with ev e8 e9
              clear e8 e9
              subst ev
              have k0 := hat 0 _ rfl
              have k1 := hat 1 _ rfl
              rw [Nat.add_zero] at k0
              have hup : 0 < k → wr.cell? ⟨pb, (k - 1) * 2, none⟩ = some (.int .i64 (hdl key (Ls.getD (j + 1) [])).1) ∧ wr.cell? ⟨pb, (k - 1) * 2 + 1, none⟩ = some (.int .u64 (hdl key (Ls.getD (j + 1) [])).2) := by
                intro hk0
                obtain ⟨pb3, cap3, ev, _, _, _, _, _, _, hat⟩ := hrk.at (i := k - 1) (x := hdl key (Ls.getD (j + 1) [])) (by have := hpl.out (j + 1) (by omega); rw [show N - 1 - (j + 1) = k - 1 by omega] at this; exact this)
                injection ev with ev el ec
                injection ev with ev
                injection ev with ev e8 e9
                subst ev
                exact ⟨hat 0 _ rfl, hat 1 _ rfl⟩
              have hct : wr.cell? ⟨t, 1, none⟩ = some (.pointer (some ⟨d.A.a, 0, none⟩)) := by rw [← hW.ad]; exact hW.tf.cells.2.1
              have hqt : t < wr.heap.size := hW.tf.cells.2.2.2.2.2.2
              have hpbw := block_lt_of_cell k0
              have hNx := Lib.hid (fun (h5 : m.keys.length = 5) W (hW2 : Below wr.heap.size wr W) => hW.next (pc := pc) hU h5 hkj (by have := hNl.out; exact this) hN1 hsl.out (hrol.out wr ρ1 hU) hup hW2)
              have hFi := Lib.hid (fun (h4 : m.keys.length ≤ 4) W (hW2 : Below wr.heap.size wr W) => (hW.below hW2).fin h4)
              clear hat hd3 hd4 hd5 hup hrk hh1
              replace hcelu := Lib.hid hcelu
              replace hGu := Lib.hid hGu
              clear u1 u2 exu hatu fu1 fu2 fu3 hu0 hW hU
              have hki : (k : Int) < (N : Int) := by omega
              have hkn : k < N := by omega
              have hk0 : (0 : Int) ≤ (k : Int) := by omega
              replace hkj := Lib.hid hkj
              go_upto_region 16 with fail
              go_cut [10] (fun v wx => v = .pointer (some ⟨u.blk, 1, none⟩) ∧ Below wr.heap.size wr wx)
              case first =>
                go_region_with (go_at_call 52; refine (hGu.out _ ((Below.refl wr.heap.size wr).drew)).mono ?_; rintro z1 w9 ⟨rfl, hb9⟩; have hbw := ((Below.refl wr.heap.size wr).drew).trans hb9; replace hbw := Lib.hid hbw; clear hb9)
                all_goals
                  go_wp2_with fail
                  go_meet
                  exact ⟨rfl, hbw.out⟩
              case rest =>
                obtain ⟨rfl, hb9⟩ := hcut
                have hq9 := Below.heap' hb9 hcelu.out
                obtain ⟨x1, x2, x3, x4, x5, x6, x7, x8⟩ := node_cells1 m qka1 qva1 qha1 qkc1 qvc1 qhc1 hq9
                have hqq := heap_lt hq9
                have g0 := keep hb9 k0
                have g1 := keep hb9 k1
                have hpbw9 := block_lt_of_cell g0
                have hFu := Lib.hid (fun W => nFull_any m.leaf qka1 m.keys.length qkc1 qva1 m.vals.length qvc1 qha1 m.kids.length qhc1 m.high m.bnd m.next.1 m.next.2 W)
                replace hq9 := Lib.hid hq9
                clear k0 k1 hct hqt hpbw
                by_cases h5 : m.keys.length = 5
                · rw [show decide (4 < m.keys.length) = true by simp; omega] at hFu
                  have hNx2 := Lib.hid (hNx.out h5)
                  clear hNx hFi
                  replace h5 := Lib.hid h5
                  replace hle5 := Lib.hid hle5
                  replace hb9 := Lib.hid hb9
                  go_wp2_with fail
                  refine (hFu.out _).mono ?_
                  rintro z w10 ⟨rfl, hb10⟩
                  have f0 := keep hb10 g0
                  have f1 := keep hb10 g1
                  have hpbw10 := block_lt_of_cell f0
                  have hb11 := Lib.hid (hb9.out.trans (hb10.mono hb9.out.size))
                  clear hb10 hb9 x1 x2 x3 x4 x5 x6 x7 x8 g0 g1 hpbw9 hFu hqq
                  have hpc0 : (k : Int) ≤ (pc : Int) := by omega
                  have hkw : IntKind.i64.wrap ((k : Int) - 1) = (k : Int) - 1 := IntWalk.i64_in _ (by omega)
                  go_upto_region 18 with fail
                  go_region_with (go_at_call 57; refine (hNx2.out _ (hb11.out.trans (Below.refl _ _).drew)).mono ?_; rintro z1 w12 ⟨rfl, hR12⟩; replace hR12 := Lib.hid hR12)
                  all_goals
                    go_wp2_with fail
                    go_roundg k
                    case rel => exact hR12.out
                    case measure => omega
                · rw [show decide (4 < m.keys.length) = false by simp; omega] at hFu
                  have hFi2 := Lib.hid (hFi.out (by omega))
                  clear hNx hFi
                  replace h5 := Lib.hid h5
                  replace hle5 := Lib.hid hle5
                  go_wp2_with fail
                  refine (hFu.out _).mono ?_
                  rintro z w10 ⟨rfl, hb10⟩
                  have hb11 := Lib.hid (hb9.trans (hb10.mono hb9.size))
                  clear hb10 hb9 x1 x2 x3 x4 x5 x6 x7 x8 g0 g1 hpbw9 hFu hqq
                  go_wp2_with fail
                  go_ret3
                  exact hE2.out _ hor.out (hFi2.out _ hb11.out)
            · replace hF := Lib.hid hF
              go_wp2_with fail
              go_ret3
              exact hE2.out _ hor.out hF.out
end
end Go.Proofs.Ytlhobbfncjjeaaa
