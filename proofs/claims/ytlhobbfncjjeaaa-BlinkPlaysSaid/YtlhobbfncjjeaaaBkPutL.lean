/- What Put does to a B-link tree's levels, from the leaf up; no program in sight. -/
import Derived.Test.YtlhobbfncjjeaaaBkSplit3
namespace Go.Proofs.Ytlhobbfncjjeaaa
/-- Two keys at least in each leaf, or one leaf alone. -/
def Fat (Ls : List Lev) : Prop := Ls.length = 1 ∨ ∀ S, Ls[0]? = some S → ∀ x : Hd × BN, x ∈ S → 2 ≤ x.2.keys.length
/-- The nodes of a level, each with the key that it begins at. -/
def lows : Str → Lev → List (Hd × Str)
  | _, [] => []
  | lo, x :: A => (x.1, lo) :: lows x.2.high A
def endOf : Str → Lev → Str
  | lo, [] => lo
  | _, x :: A => endOf x.2.high A
theorem lows_append : ∀ (A : Lev) (lo : Str) (B : Lev), lows lo (A ++ B) = lows lo A ++ lows (endOf lo A) B
  | [], _, _ => rfl
  | x :: A, lo, B => by
    show (x.1, lo) :: lows x.2.high (A ++ B) = _
    rw [lows_append A]
    rfl
theorem lows_same (A : Lev) (lo : Str) {x y : Hd × BN} (B : Lev) (h1 : x.1 = y.1) (h2 : x.2.high = y.2.high) : lows lo (A ++ x :: B) = lows lo (A ++ y :: B) := by
  rw [lows_append, lows_append]
  show _ ++ (x.1, _) :: lows x.2.high B = _ ++ (y.1, _) :: lows y.2.high B
  rw [h1, h2]
theorem lows_split (A : Lev) (lo : Str) {x y z : Hd × BN} (B : Lev) (h1 : x.1 = y.1) (h2 : x.2.high = z.2.high) : ∀ a, a ∈ lows lo (A ++ x :: B) → a ∈ lows lo (A ++ y :: z :: B) := by
  intro a ha
  rw [lows_append] at ha ⊢
  have ha' : a ∈ lows lo A ++ (x.1, endOf lo A) :: lows x.2.high B := ha
  show a ∈ lows lo A ++ (y.1, endOf lo A) :: (z.1, y.2.high) :: lows z.2.high B
  rw [h1, h2] at ha'
  simp only [List.mem_append, List.mem_cons] at ha' ⊢
  rcases ha' with h | h | h
  · exact .inl h
  · exact .inr (.inl h)
  · exact .inr (.inr (.inr h))
/-- No node is lost, none begins at another key, none changes its level. -/
def Evo (Ls Ls' : List Lev) : Prop := ∀ (j : Nat) (S : Lev), Ls[j]? = some S → ∃ S', Ls'[j]? = some S' ∧ ∀ x, x ∈ lows s0 S → x ∈ lows s0 S'
theorem Evo.refl (Ls : List Lev) : Evo Ls Ls := fun _ S h => ⟨S, h, fun _ hx => hx⟩
theorem Evo.trans {L1 L2 L3 : List Lev} (h : Evo L1 L2) (k : Evo L2 L3) : Evo L1 L3 := fun j S hS => by
  obtain ⟨S', h1, h2⟩ := h j S hS
  obtain ⟨S2, h3, h4⟩ := k j S' h1
  exact ⟨S2, h3, fun x hx => h4 x (h2 x hx)⟩
theorem Evo.set {Ls : List Lev} {j : Nat} {S S' : Lev} (h : Ls[j]? = some S) (hs : ∀ x, x ∈ lows s0 S → x ∈ lows s0 S') : Evo Ls (Ls.set j S') := fun k T hT => by
  by_cases hk : k = j
  · subst hk
    rw [h] at hT
    injection hT with hT
    subst hT
    exact ⟨S', get_set_self h, hs⟩
  · exact ⟨T, by rw [List.getElem?_set, if_neg (Ne.symm hk)]; exact hT, fun _ hx => hx⟩
theorem Evo.app (Ls Ms : List Lev) : Evo Ls (Ls ++ Ms) := fun j S h => ⟨S, by rw [List.getElem?_append_left (List.getElem?_eq_some_iff.1 h).1]; exact h, fun _ hx => hx⟩
/-- No leaf has more than three keys. -/
def Few (Ls : List Lev) : Prop := ∀ S, Ls[0]? = some S → ∀ x : Hd × BN, x ∈ S → x.2.keys.length ≤ 3
/-- Put on its way up: level j alone may have a node that is too full, the one on the way. -/
structure PutI (Ls0 : List Lev) (key : Str) (C : Cont) (r : Hd) (j : Nat) (h : Hd) (n : BN) (A B : Lev) (Ls : List Lev) : Prop where
  tow : Tower Ls
  thk : Thick Ls
  len : Ls.length = Ls0.length
  up : ∀ k, j < k → Ls[k]? = Ls0[k]?
  lev : Ls[j]? = some (A ++ (h, n) :: B)
  hdl : h = hdl key (Ls0.getD j [])
  cov : n.covers key = true
  non : ∀ z, z ∈ A → z.2.covers key = false
  le5 : n.keys.length ≤ 5
  side : ∀ z, z ∈ A ∨ z ∈ B → z.2.keys.length ≤ 4
  slim : ∀ k R, k ≠ j → Ls[k]? = some R → ∀ x, x ∈ R → x.2.keys.length ≤ 4
  con : content Ls = C
  top : ∃ n0, Ls[Ls.length - 1]? = some [(r, n0)]
  lvs : leaves Ls + (if j = 0 then 1 else 0) ≤ leaves Ls0 + 1
  fat : Fat Ls0 → Fat Ls
  evo : Evo Ls0 Ls
  few : Few Ls0 → j = 0 ∧ n.keys.length ≤ 4 ∧ nodes Ls = nodes Ls0
theorem leaves_of {Ls : List Lev} {S : Lev} (h : Ls[0]? = some S) : leaves Ls = S.length := by unfold leaves; rw [List.getD_eq_getElem?_getD, h]; rfl
theorem put_ends (n : BN) (k v : Str) : (n.put k v).high = n.high ∧ (n.put k v).bnd = n.bnd ∧ (n.put k v).next = n.next ∧ (n.put k v).leaf = n.leaf ∧ n.keys.length ≤ (n.put k v).keys.length ∧ (n.put k v).keys.length = n.keys.length + (if hasK k n.keys then 0 else 1) := by
  have := cut_le k n.keys
  unfold BN.put
  cases hasK k n.keys
  · refine ⟨rfl, rfl, rfl, rfl, ?_, ?_⟩ <;> simp [List.length_insertIdx_of_le_length this]
  · exact ⟨rfl, rfl, rfl, rfl, Nat.le_refl _, rfl⟩
/-- The leaf is written. -/
theorem Tower.put {Ls : List Lev} (ht : Tower Ls) (hk : Thick Ls) (hs : Slim Ls) {r : Hd} (top : ∃ n0, Ls[Ls.length - 1]? = some [(r, n0)]) {S : Lev} {key : Str} {h : Hd} {n : BN} (hS : Ls[0]? = some S) (hy : atK S key = some (h, n)) (v : Str) :
    ∃ A B, S = A ++ (h, n) :: B ∧ PutI Ls key (cput (content Ls) key v) r 0 h (n.put key v) A B (Ls.set 0 (A ++ (h, n.put key v) :: B)) := by
  have hok := ht.ok _ _ hS
  obtain ⟨hm, hc⟩ := atK_mem hy
  obtain ⟨l, hl⟩ := hok.node hm
  have hlf : n.leaf = true := hok.lf (h, n) hm
  obtain ⟨A, B, e, _, hA⟩ := atK_split hy
  have hseg := hok.seg
  rw [e] at hseg
  obtain ⟨s1, s2⟩ := cont_sides hseg hA hc
  have hs0 := hs 0 S hS
  obtain ⟨q1, q2, q3, q4, q5, q6⟩ := put_ends n key v
  have hn4 : n.keys.length ≤ 4 := hs0 (h, n) hm
  have hset := get_set_self (a := A ++ (h, n.put key v) :: B) hS
  have hfew : Few Ls → 0 = 0 ∧ (n.put key v).keys.length ≤ 4 ∧ nodes (Ls.set 0 (A ++ (h, n.put key v) :: B)) = nodes Ls := fun hf => by
    have h3 : n.keys.length ≤ 3 := hf S hS (h, n) hm
    refine ⟨rfl, by rw [q6]; split <;> omega, ?_⟩
    obtain ⟨X, Y, x1, x2⟩ := lev_set (S' := A ++ (h, n.put key v) :: B) hS
    unfold nodes
    rw [x1, x2, e]
    simp
  refine ⟨A, B, e, ?_⟩
  refine { tow := ?_, thk := ?_, len := by simp, up := ?_, lev := hset, hdl := ?_, cov := ?_, non := hA, le5 := ?_, side := ?_, slim := ?_, con := ?_, top := ?_, lvs := ?_, fat := ?_, evo := Evo.set hS (fun x hx => by rw [e] at hx; rw [lows_same A s0 (x := (h, n.put key v)) (y := (h, n)) B rfl q1]; exact hx), few := hfew }
  · exact ht.leaf (by rw [← e]; exact hS) (fun m hm' hsg => hm'.put hlf v (seg_reach hsg hA (sle_s0 key)) hc) q1 q2 q3 q4
  · intro j R hR hj
    rcases set_get hR with ⟨e0, _⟩ | ⟨_, hR⟩
    · omega
    · exact hk j R hR hj
  · intro k hk0
    rw [List.getElem?_set, if_neg (by omega)]
  · rw [List.getD_eq_getElem?_getD, hS]
    exact (hdl_of hy).symm
  · unfold BN.covers at hc ⊢
    rw [q1, q2]; exact hc
  · rw [q6]; split <;> omega
  · intro z hz
    refine hs0 z ?_
    rw [e]
    rcases hz with hz | hz
    · simp [hz]
    · simp [hz]
  · intro k R hk0 hR x hx
    rcases set_get hR with ⟨rfl, _⟩ | ⟨_, hR⟩
    · exact absurd rfl hk0
    · exact hs k R hR x hx
  · rw [content_of hset, content_of hS, e, cont_append, cont_cons, put_pairs hl hlf, cont_append, cont_cons, ← List.append_assoc, ← List.append_assoc, cput_mid s1 s2]
  · obtain ⟨n0, h0⟩ := top
    simp only [List.length_set]
    by_cases he : Ls.length - 1 = 0
    · rw [he] at h0 ⊢
      rw [hS, e] at h0
      injection h0 with h0
      have : A = [] ∧ B = [] ∧ h = r := by
        cases A with
        | nil => simp at h0; exact ⟨rfl, h0.2, h0.1.1⟩
        | cons a A => simp at h0
      exact ⟨_, by rw [hset, this.1, this.2.1, this.2.2]; rfl⟩
    · exact ⟨n0, by rw [List.getElem?_set, if_neg (by omega)]; exact h0⟩
  · rw [leaves_of hset, leaves_of hS, e]
    simp
  · intro hf
    rcases hf with hf | hf
    · exact .inl (by simpa using hf)
    · refine .inr fun S' hS' x hx => ?_
      rw [hset] at hS'
      injection hS' with hS'
      rw [← hS'] at hx
      have hf0 := hf S hS
      rw [e] at hf0
      simp only [List.mem_append, List.mem_cons] at hx
      rcases hx with hx | rfl | hx
      · exact hf0 x (by simp [hx])
      · exact Nat.le_trans (hf0 (h, n) (by simp)) q5
      · exact hf0 x (by simp [hx])
theorem half_sizes {m : BN} (h5 : m.keys.length = 5) (nx : Hd) : (m.left nx).keys.length = 2 ∧ 2 ≤ m.rightHalf.keys.length ∧ m.rightHalf.keys.length ≤ 3 ∧ m.mid = 2 := by
  have hm : m.mid = 2 := by unfold BN.mid; omega
  refine ⟨by simp [BN.left, hm]; omega, ?_, ?_, hm⟩ <;> unfold BN.rightHalf <;> split <;> simp [hm] <;> omega
theorem split_pairs {lo : Str} {m : BN} (h : NodeOK lo m) (hl : m.leaf = true) (nx : Hd) : (m.left nx).pairs ++ m.rightHalf.pairs = m.pairs := by
  have hv := (h.lf hl).1
  unfold BN.pairs BN.left BN.rightHalf
  simp only [hl, if_true]
  rw [← List.zip_append (by simp [hv]), List.take_append_drop, List.take_append_drop]
/-- Two ways to say where a key is. -/
theorem at_uniq {A B A' B' : Lev} {x y : Hd × BN} {key : Str} (e : A ++ x :: B = A' ++ y :: B') (h1 : ∀ z, z ∈ A → z.2.covers key = false) (h2 : x.2.covers key = true) (h3 : ∀ z, z ∈ A' → z.2.covers key = false) (h4 : y.2.covers key = true) : A = A' ∧ x = y ∧ B = B' :=
  first_uniq (p := fun z : Hd × BN => z.2.covers key) e h1 h3 h2 h4
section
variable {Ls0 Ls : List Lev} {key : Str} {C : Cont} {r : Hd} {j : Nat} {hh : Hd} {m : BN} {A B : Lev}
theorem PutI.node (h : PutI Ls0 key C r j hh m A B Ls) : (∃ lo, NodeOK lo m) ∧ m.leaf = decide (j = 0) := by
  have hok := h.tow.ok _ _ h.lev
  exact ⟨hok.node (x := (hh, m)) (by simp), hok.lf (hh, m) (by simp)⟩
theorem PutI.fin (h : PutI Ls0 key C r j hh m A B Ls) (h4 : m.keys.length ≤ 4) : Slim Ls := by
  intro k R hR x hx
  by_cases hk : k = j
  · subst hk
    rw [h.lev] at hR
    injection hR with hR
    rw [← hR] at hx
    simp only [List.mem_append, List.mem_cons] at hx
    rcases hx with hx | rfl | hx
    · exact h.side x (.inl hx)
    · exact h4
    · exact h.side x (.inr hx)
  · exact h.slim k R hk hR x hx
/-- A node that is too full is split, and the one above is told. -/
theorem PutI.step (h : PutI Ls0 key C r j hh m A B Ls) (h5 : m.keys.length = 5) (hj : j + 1 < Ls0.length) (hs0 : Slim Ls0) :
    ∃ A' hp n B', Ls[j + 1]? = some (A' ++ (hp, n) :: B') ∧ Ls0[j + 1]? = some (A' ++ (hp, n) :: B') ∧ hp = Proofs.Ytlhobbfncjjeaaa.hdl key (Ls0.getD (j + 1) []) ∧ atK (A' ++ (hp, n) :: B') key = some (hp, n) ∧ (∃ lo, NodeOK lo n) ∧ n.leaf = false ∧ n.covers m.sep = true ∧ hasK m.sep n.keys = false ∧ n.keys.length ≤ 4 ∧
      ∀ nx, PutI Ls0 key C r (j + 1) hp (n.add m.sep nx) A' B' ((Ls.set j (A ++ (hh, m.left nx) :: (nx, m.rightHalf) :: B)).set (j + 1) (A' ++ (hp, n.add m.sep nx) :: B')) := by
  obtain ⟨⟨lo, hlo⟩, hlf⟩ := h.node
  have hat : atK (A ++ (hh, m) :: B) key = some (hh, m) := atK_mk h.cov h.non
  have hjl : j + 1 < Ls.length := by rw [h.len]; exact hj
  have hR : Ls[j + 1]? = some Ls[j + 1] := List.getElem?_eq_getElem hjl
  obtain ⟨R, hRe⟩ : ∃ R, Ls[j + 1] = R := ⟨_, rfl⟩
  rw [hRe] at hR
  have okR := h.tow.ok _ _ hR
  rw [show decide (j + 1 = 0) = false by simp] at okR
  obtain ⟨⟨hp, n⟩, hat2⟩ := h.tow.at hR key
  obtain ⟨hmem, hnc⟩ := atK_mem hat2
  obtain ⟨A', B', e', _, hA'⟩ := atK_split hat2
  have hR0 : Ls0[j + 1]? = some R := by rw [← h.up (j + 1) (by omega)]; exact hR
  have hn4 : n.keys.length ≤ 4 := hs0 _ _ hR0 _ hmem
  have hsp : ∀ nx, hasK m.sep n.keys = false ∧ n.covers m.sep = true ∧ Tower ((Ls.set j (A ++ (hh, m.left nx) :: (nx, m.rightHalf) :: B)).set (j + 1) (A' ++ (hp, n.add m.sep nx) :: B')) := fun nx => by
    obtain ⟨A1, B1, A2, B2, e1, e2, c1, c2, c3, c4, c5, q⟩ := h.tow.split (nx := nx) h.lev hR hat hat2 (by omega)
    obtain ⟨rfl, _, rfl⟩ := at_uniq e1 h.non h.cov c1 h.cov
    rw [e'] at e2
    obtain ⟨rfl, _, rfl⟩ := at_uniq e2 hA' hnc c2 hnc
    exact ⟨c4, c5, q⟩
  refine ⟨A', hp, n, B', by rw [← e']; exact hR, by rw [← e']; exact hR0, ?_, by rw [← e']; exact hat2, okR.node hmem, okR.lf _ hmem, (hsp (0, 0)).2.1, (hsp (0, 0)).1, hn4, fun nx => ?_⟩
  · rw [List.getD_eq_getElem?_getD, hR0]
    exact (hdl_of hat2).symm
  · obtain ⟨hno, hcs, hT⟩ := hsp nx
    obtain ⟨z1, z2, z3, z4⟩ := half_sizes h5 nx
    have hadd : (n.add m.sep nx).keys.length = n.keys.length + 1 := by
      show (n.keys.insertIdx (cut m.sep n.keys) m.sep).length = _
      rw [List.length_insertIdx_of_le_length (cut_le _ _)]
    have hget : ∀ {k : Nat} {T : Lev}, ((Ls.set j (A ++ (hh, m.left nx) :: (nx, m.rightHalf) :: B)).set (j + 1) (A' ++ (hp, n.add m.sep nx) :: B'))[k]? = some T →
        (k = j + 1 ∧ T = A' ++ (hp, n.add m.sep nx) :: B') ∨ (k = j ∧ T = A ++ (hh, m.left nx) :: (nx, m.rightHalf) :: B) ∨ (k ≠ j ∧ k ≠ j + 1 ∧ Ls[k]? = some T) := by
      intro k T hT
      rcases set_get hT with ⟨e, rfl⟩ | ⟨e, hT⟩
      · exact .inl ⟨e.symm, rfl⟩
      · rcases set_get hT with ⟨e2, rfl⟩ | ⟨e2, hT⟩
        · exact .inr (.inl ⟨e2.symm, rfl⟩)
        · exact .inr (.inr ⟨fun h => e2 h.symm, fun h => e h.symm, hT⟩)
    have hj1 : ((Ls.set j (A ++ (hh, m.left nx) :: (nx, m.rightHalf) :: B)).set (j + 1) (A' ++ (hp, n.add m.sep nx) :: B'))[j + 1]? = some (A' ++ (hp, n.add m.sep nx) :: B') := get_set_self (b := R) (by rw [List.getElem?_set, if_neg (by omega)]; exact hR)
    have hj0 : ((Ls.set j (A ++ (hh, m.left nx) :: (nx, m.rightHalf) :: B)).set (j + 1) (A' ++ (hp, n.add m.sep nx) :: B'))[j]? = some (A ++ (hh, m.left nx) :: (nx, m.rightHalf) :: B) := by
      rw [List.getElem?_set, if_neg (by omega)]
      exact get_set_self h.lev
    have hset1 : (Ls.set j (A ++ (hh, m.left nx) :: (nx, m.rightHalf) :: B))[j + 1]? = some (A' ++ (hp, n) :: B') := by
      rw [List.getElem?_set, if_neg (by omega), hR, e']
    have hevo : Evo Ls0 ((Ls.set j (A ++ (hh, m.left nx) :: (nx, m.rightHalf) :: B)).set (j + 1) (A' ++ (hp, n.add m.sep nx) :: B')) :=
      (h.evo.trans (Evo.set (S' := A ++ (hh, m.left nx) :: (nx, m.rightHalf) :: B) h.lev (lows_split (x := (hh, m)) (y := (hh, m.left nx)) (z := (nx, m.rightHalf)) A s0 B rfl (rightHalf_ends m).1.symm))).trans (Evo.set (S' := A' ++ (hp, n.add m.sep nx) :: B') hset1 (fun x hx => by rw [lows_same A' s0 (x := (hp, n.add m.sep nx)) (y := (hp, n)) B' rfl rfl]; exact hx))
    refine { tow := hT, thk := ?_, len := by simp [h.len], up := ?_, lev := hj1, hdl := ?_, cov := ?_, non := hA', le5 := ?_, side := ?_, slim := ?_, con := ?_, top := ?_, lvs := ?_, fat := ?_, evo := hevo, few := fun hf => by have := (h.few hf).2.1; omega }
    · intro k T hT hk x hx
      rcases hget hT with ⟨rfl, rfl⟩ | ⟨rfl, rfl⟩ | ⟨_, _, hT⟩
      · simp only [List.mem_append, List.mem_cons] at hx
        rcases hx with hx | rfl | hx
        · exact h.thk _ _ hR hk x (by rw [e']; simp [hx])
        · show 1 ≤ (n.add m.sep nx).keys.length
          omega
        · exact h.thk _ _ hR hk x (by rw [e']; simp [hx])
      · simp only [List.mem_append, List.mem_cons] at hx
        rcases hx with hx | rfl | rfl | hx
        · exact h.thk _ _ h.lev hk x (by simp [hx])
        · show 1 ≤ (m.left nx).keys.length
          omega
        · show 1 ≤ m.rightHalf.keys.length
          omega
        · exact h.thk _ _ h.lev hk x (by simp [hx])
      · exact h.thk _ _ hT hk x hx
    · intro k hk
      rw [List.getElem?_set, if_neg (by omega), List.getElem?_set, if_neg (by omega)]
      exact h.up k (by omega)
    · rw [List.getD_eq_getElem?_getD, hR0]
      exact (hdl_of hat2).symm
    · exact hnc
    · omega
    · intro z hz
      refine hs0 _ _ hR0 z ?_
      rw [e']
      rcases hz with hz | hz
      · simp [hz]
      · simp [hz]
    · intro k T hk hT x hx
      rcases hget hT with ⟨rfl, _⟩ | ⟨rfl, rfl⟩ | ⟨e, _, hT⟩
      · exact absurd rfl hk
      · simp only [List.mem_append, List.mem_cons] at hx
        rcases hx with hx | rfl | rfl | hx
        · exact h.side x (.inl hx)
        · show (m.left nx).keys.length ≤ 4
          omega
        · show m.rightHalf.keys.length ≤ 4
          omega
        · exact h.side x (.inr hx)
      · exact h.slim k T e hT x hx
    · rw [← h.con]
      by_cases h0 : j = 0
      · subst h0
        rw [content_of hj0, content_of h.lev, cont_append, cont_append, cont_cons, cont_cons, cont_cons, ← split_pairs hlo (by rw [hlf]; simp) nx]
        simp only [List.append_assoc]
      · obtain ⟨hl, _⟩ := List.getElem?_eq_some_iff.1 h.lev
        have hS0 : Ls[0]? = some Ls[0] := List.getElem?_eq_getElem (by omega)
        rw [content_of hS0, content_of (S := Ls[0])]
        rw [List.getElem?_set, if_neg (by omega), List.getElem?_set, if_neg h0]
        exact hS0
    · obtain ⟨n0, h0⟩ := h.top
      simp only [List.length_set]
      by_cases he : j + 1 = Ls.length - 1
      · rw [← he] at h0 ⊢
        rw [hR, e'] at h0
        injection h0 with h0
        have : A' = [] ∧ B' = [] ∧ hp = r := by
          cases A' with
          | nil => simp at h0; exact ⟨rfl, h0.2, h0.1.1⟩
          | cons a A' => simp at h0
        exact ⟨_, by rw [hj1, this.1, this.2.1, this.2.2]; rfl⟩
      · exact ⟨n0, by rw [List.getElem?_set, if_neg he, List.getElem?_set, if_neg (by omega)]; exact h0⟩
    · have hl := h.lvs
      rw [if_neg (by omega)]
      by_cases h0 : j = 0
      · subst h0
        rw [leaves_of hj0]
        rw [leaves_of h.lev] at hl
        simp at hl ⊢
        omega
      · rw [if_neg h0] at hl
        obtain ⟨hl1, _⟩ := List.getElem?_eq_some_iff.1 h.lev
        have hS0 : Ls[0]? = some Ls[0] := List.getElem?_eq_getElem (by omega)
        rw [leaves_of (S := Ls[0])]
        · rw [leaves_of hS0] at hl
          omega
        · rw [List.getElem?_set, if_neg (by omega), List.getElem?_set, if_neg h0]
          exact hS0
    · intro hf
      rcases h.fat hf with hf | hf
      · omega
      · refine .inr fun S hS x hx => ?_
        rcases hget hS with ⟨e, _⟩ | ⟨rfl, rfl⟩ | ⟨_, _, hS⟩
        · omega
        · have hf0 := hf _ h.lev
          simp only [List.mem_append, List.mem_cons] at hx
          rcases hx with hx | rfl | rfl | hx
          · exact hf0 x (by simp [hx])
          · show 2 ≤ (m.left nx).keys.length
            omega
          · exact z2
          · exact hf0 x (by simp [hx])
        · exact hf _ hS x hx
/-- The highest node is split. -/
theorem PutI.stepTop (h : PutI Ls0 key C r j hh m A B Ls) (h5 : m.keys.length = 5) (hj : j + 1 = Ls0.length) (nx top : Hd) :
    A = [] ∧ B = [] ∧ Tower (Ls.set j [(hh, m.left nx), (nx, m.rightHalf)] ++ [[(top, newRoot m.sep hh nx)]]) ∧ Thick (Ls.set j [(hh, m.left nx), (nx, m.rightHalf)] ++ [[(top, newRoot m.sep hh nx)]]) ∧ Slim (Ls.set j [(hh, m.left nx), (nx, m.rightHalf)] ++ [[(top, newRoot m.sep hh nx)]]) ∧
      content (Ls.set j [(hh, m.left nx), (nx, m.rightHalf)] ++ [[(top, newRoot m.sep hh nx)]]) = C ∧ leaves (Ls.set j [(hh, m.left nx), (nx, m.rightHalf)] ++ [[(top, newRoot m.sep hh nx)]]) ≤ leaves Ls0 + 1 ∧ (Fat Ls0 → Fat (Ls.set j [(hh, m.left nx), (nx, m.rightHalf)] ++ [[(top, newRoot m.sep hh nx)]])) ∧ Evo Ls0 (Ls.set j [(hh, m.left nx), (nx, m.rightHalf)] ++ [[(top, newRoot m.sep hh nx)]]) := by
  obtain ⟨⟨lo, hlo⟩, hlf⟩ := h.node
  obtain ⟨z1, z2, z3, z4⟩ := half_sizes h5 nx
  obtain ⟨hjl, _⟩ := List.getElem?_eq_some_iff.1 h.lev
  have hjL : j = Ls.length - 1 := by have := h.len; omega
  have hAB : A = [] ∧ B = [] := by
    obtain ⟨n0, h0⟩ := h.top
    rw [← hjL, h.lev] at h0
    injection h0 with h0
    cases A with
    | nil => simp at h0; exact ⟨rfl, h0.2⟩
    | cons a A => simp at h0
  have hlev := h.lev
  rw [hAB.1, hAB.2] at hlev
  have hT := h.tow.splitTop (nx := nx) (top := top) (h := hh) (m := m) (by rw [← hjL]; exact hlev) (by omega)
  rw [← hjL] at hT
  have hget : ∀ {k : Nat} {T : Lev}, (Ls.set j [(hh, m.left nx), (nx, m.rightHalf)] ++ [[(top, newRoot m.sep hh nx)]])[k]? = some T →
      (k = j + 1 ∧ T = [(top, newRoot m.sep hh nx)]) ∨ (k = j ∧ T = [(hh, m.left nx), (nx, m.rightHalf)]) ∨ (k < j ∧ Ls[k]? = some T) := by
    intro k T hT
    rcases Nat.lt_or_ge k Ls.length with h1 | h1
    · rw [List.getElem?_append_left (by simpa using h1)] at hT
      rcases set_get hT with ⟨e, rfl⟩ | ⟨e, hT⟩
      · exact .inr (.inl ⟨e.symm, rfl⟩)
      · exact .inr (.inr ⟨by omega, hT⟩)
    · rw [List.getElem?_append_right (by simpa using h1)] at hT
      simp only [List.length_set] at hT
      have h2 := (List.getElem?_eq_some_iff.1 hT).1
      simp only [List.length_cons, List.length_nil] at h2
      have h3 : k = Ls.length := by omega
      subst h3
      simp at hT
      exact .inl ⟨by omega, hT.symm⟩
  have hj0 : (Ls.set j [(hh, m.left nx), (nx, m.rightHalf)] ++ [[(top, newRoot m.sep hh nx)]])[j]? = some [(hh, m.left nx), (nx, m.rightHalf)] := by
    rw [List.getElem?_append_left (by simpa using hjl)]
    exact get_set_self h.lev
  have hlow : j ≠ 0 → (Ls.set j [(hh, m.left nx), (nx, m.rightHalf)] ++ [[(top, newRoot m.sep hh nx)]])[0]? = Ls[0]? := fun h0 => by
    rw [List.getElem?_append_left (by simp; omega), List.getElem?_set, if_neg h0]
  refine ⟨hAB.1, hAB.2, hT, fun k T hT hk x hx => ?_, fun k T hT x hx => ?_, ?_, ?_, fun hf => ?_, (h.evo.trans (Evo.set (S' := [(hh, m.left nx), (nx, m.rightHalf)]) hlev (lows_split (x := (hh, m)) (y := (hh, m.left nx)) (z := (nx, m.rightHalf)) [] s0 [] rfl (rightHalf_ends m).1.symm))).trans (Evo.app _ _)⟩
  · rcases hget hT with ⟨rfl, rfl⟩ | ⟨rfl, rfl⟩ | ⟨_, hT⟩
    · simp only [List.mem_cons, List.not_mem_nil, or_false] at hx
      rw [hx]; simp [newRoot]
    · simp only [List.mem_cons, List.not_mem_nil, or_false] at hx
      rcases hx with rfl | rfl
      · show 1 ≤ (m.left nx).keys.length
        omega
      · show 1 ≤ m.rightHalf.keys.length
        omega
    · exact h.thk _ _ hT hk x hx
  · rcases hget hT with ⟨rfl, rfl⟩ | ⟨rfl, rfl⟩ | ⟨e, hT⟩
    · simp only [List.mem_cons, List.not_mem_nil, or_false] at hx
      rw [hx]; simp [newRoot]
    · simp only [List.mem_cons, List.not_mem_nil, or_false] at hx
      rcases hx with rfl | rfl
      · show (m.left nx).keys.length ≤ 4
        omega
      · show m.rightHalf.keys.length ≤ 4
        omega
    · exact h.slim k T (by omega) hT x hx
  · rw [← h.con]
    by_cases h0 : j = 0
    · subst h0
      rw [content_of hj0, content_of hlev, cont_cons, cont_cons]
      show _ = cont [(hh, m)]
      rw [cont_cons, ← split_pairs hlo (by rw [hlf]; simp) nx]
      simp [cont]
    · have hS0 : Ls[0]? = some Ls[0] := List.getElem?_eq_getElem (by omega)
      rw [content_of hS0, content_of (S := Ls[0]) (by rw [hlow h0]; exact hS0)]
  · have hl := h.lvs
    by_cases h0 : j = 0
    · subst h0
      rw [leaves_of hj0]
      rw [leaves_of hlev] at hl
      simp at hl ⊢
      omega
    · have hS0 : Ls[0]? = some Ls[0] := List.getElem?_eq_getElem (by omega)
      rw [if_neg h0] at hl
      rw [leaves_of (S := Ls[0]) (by rw [hlow h0]; exact hS0)]
      rw [leaves_of hS0] at hl
      omega
  · refine .inr fun S hS x hx => ?_
    by_cases h0 : j = 0
    · subst h0
      rw [hj0] at hS
      injection hS with hS
      rw [← hS] at hx
      simp only [List.mem_cons, List.not_mem_nil, or_false] at hx
      rcases hx with rfl | rfl
      · show 2 ≤ (m.left nx).keys.length
        omega
      · exact z2
    · rw [hlow h0] at hS
      rcases h.fat hf with hf | hf
      · omega
      · exact hf S hS x hx
end
end Go.Proofs.Ytlhobbfncjjeaaa
