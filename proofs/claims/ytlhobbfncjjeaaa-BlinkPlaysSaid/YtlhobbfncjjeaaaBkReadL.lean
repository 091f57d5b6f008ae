/- A reader of a B-link tree that is written between its looks, as plain data: where it goes, and why it ends; no program in sight. -/
import Derived.Test.YtlhobbfncjjeaaaBkPutL
import Derived.Test.YtlhobbfncjjeaaaBkNext
namespace Go.Proofs.Ytlhobbfncjjeaaa
theorem lows_mem : ∀ {S : Lev} {a : Str} {x : Hd × Str}, x ∈ lows a S → ∃ A n B, S = A ++ (x.1, n) :: B ∧ endOf a A = x.2
  | [], _, _, h => by cases h
  | (h0, n) :: S, a, x, h => by
    rcases List.mem_cons.1 h with rfl | h
    · exact ⟨[], n, S, rfl, rfl⟩
    · obtain ⟨A, n', B, e, e'⟩ := lows_mem h
      exact ⟨(h0, n) :: A, n', B, by rw [e]; rfl, e'⟩
theorem seg_end : ∀ {A : Lev} {lo m : Str} {nxt : Hd}, Seg lo A nxt (some m) → endOf lo A = m
  | [], lo, m, _, h => by simp only [Seg, Option.some.injEq] at h; exact h.symm
  | (h0, n) :: A, lo, m, nxt, ⟨a, _, c⟩ => by
    by_cases hb : n.bnd = true
    · rw [if_pos hb] at c
      exact seg_end (A := A) (lo := n.high) (nxt := nxt) c
    · rw [if_neg hb] at c
      cases c.2
/-- Node h stands in level j, and begins at lo. -/
def Has (Ls : List Lev) (j : Nat) (h : Hd) (lo : Str) : Prop := ∃ S, Ls[j]? = some S ∧ (h, lo) ∈ lows s0 S
theorem Evo.has {Ls Ls' : List Lev} (he : Evo Ls Ls') {j : Nat} {h : Hd} {lo : Str} (hh : Has Ls j h lo) : Has Ls' j h lo := by
  obtain ⟨S, h1, h2⟩ := hh
  obtain ⟨S', h3, h4⟩ := he j S h1
  exact ⟨S', h3, h4 _ h2⟩
structure NodeIn (Ls : List Lev) (j : Nat) (h : Hd) (lo : Str) (n : BN) (A B : Lev) : Prop where
  lev : Ls[j]? = some (A ++ (h, n) :: B)
  ok : NodeOK lo n
  lf : n.leaf = decide (j = 0)
  left : Seg s0 A h (some lo)
  right : Seg lo ((h, n) :: B) (0, 0) none
section
variable {Ls : List Lev} {j : Nat} {h : Hd} {lo key : Str} {n : BN} {A B : Lev} {after : Bool}
theorem Tower.inOf (ht : Tower Ls) (hl : Ls[j]? = some (A ++ (h, n) :: B)) : ∃ lo, NodeIn Ls j h lo n A B := by
  have hok := ht.ok _ _ hl
  obtain ⟨m, h1, h2⟩ := seg_append.1 hok.seg
  exact ⟨m, hl, h2.1, hok.lf (h, n) (by simp), h1, h2⟩
theorem Tower.nodeIn (ht : Tower Ls) (hh : Has Ls j h lo) : ∃ n A B, NodeIn Ls j h lo n A B := by
  obtain ⟨S, h1, h2⟩ := hh
  obtain ⟨A, n, B, e, e'⟩ := lows_mem h2
  subst e
  obtain ⟨lo', hi⟩ := ht.inOf h1
  have := seg_end hi.left
  simp only at e'
  rw [e'] at this
  subst this
  exact ⟨n, A, B, hi⟩
theorem NodeIn.has (hi : NodeIn Ls j h lo n A B) : Has Ls j h lo := by
  refine ⟨_, hi.lev, ?_⟩
  rw [lows_append, seg_end hi.left]
  exact List.mem_append.2 (.inr (List.mem_cons.2 (.inl rfl)))
theorem NodeIn.memF (hi : NodeIn Ls j h lo n A B) : (h, n) ∈ Ls.flatten := mem_flat hi.lev (by simp)
theorem NodeIn.atK (hi : NodeIn Ls j h lo n A B) (hk : sle lo key = true) (hc : n.covers key = true) : atK (A ++ (h, n) :: B) key = some (h, n) := by
  refine atK_mk hc fun y hy => ?_
  obtain ⟨x, h1, h2⟩ := (seg_his hi.left).2 y hy
  rw [covers_hi, h1]
  exact sle_iff.1 (sle_trans h2 hk)
/-- The node to the right. -/
theorem NodeIn.nextB (ht : Tower Ls) (hi : NodeIn Ls j h lo n A B) (hb : n.bnd = true) : ∃ (y : Hd × BN) (B' : Lev), B = y :: B' ∧ n.next = y.1 ∧ slt lo n.high = true ∧ NodeIn Ls j y.1 n.high y.2 (A ++ [(h, n)]) B' := by
  obtain ⟨a, b, c⟩ := hi.right
  rw [if_pos hb] at c
  cases B with
  | nil => simp [Seg] at c
  | cons y B' =>
    obtain ⟨y1, y2⟩ := y
    have hl : Ls[j]? = some ((A ++ [(h, n)]) ++ (y1, y2) :: B') := by rw [hi.lev]; simp
    obtain ⟨lo', hi'⟩ := ht.inOf hl
    have h1 := seg_end hi'.left
    have h2 : ∀ (A : Lev) (a : Str), endOf a (A ++ [(h, n)]) = n.high := fun A => by
      induction A with
      | nil => intro a; rfl
      | cons z A ih => intro a; exact ih _
    rw [h2] at h1
    rw [← h1] at hi'
    exact ⟨(y1, y2), B', rfl, b, hi.ok.room hb, hi'⟩
theorem covers_false (hc : n.covers key = false) : n.bnd = true ∧ sle n.high key = true := by
  unfold BN.covers at hc
  cases hb : n.bnd
  · rw [hb] at hc; simp at hc
  · rw [hb] at hc
    simp only [Bool.not_true, Bool.false_or] at hc
    exact ⟨rfl, sle_iff.2 hc⟩
/-- The kid that covers a key. -/
theorem NodeIn.kid (ht : Tower Ls) {i : Nat} (hi : NodeIn Ls (i + 1) h lo n A B) (hk : sle lo key = true) (hc : n.covers key = true) :
    ∃ z lo' m A' B', n.kids[cutE key n.keys]? = some z ∧ NodeIn Ls i z lo' m A' B' ∧ sle lo' key = true ∧ m.covers key = true := by
  have hlt := (List.getElem?_eq_some_iff.1 hi.lev).1
  obtain ⟨S, y, hS, hy, hz⟩ := ht.down hi.lev (hi.atK hk hc)
  obtain ⟨A2, B2, e, hyc, hA⟩ := atK_split hy
  subst e
  obtain ⟨y1, y2⟩ := y
  obtain ⟨lo', hi'⟩ := ht.inOf hS
  exact ⟨y1, lo', y2, A2, B2, hz, hi', seg_reach hi'.left hA (sle_s0 key), hyc⟩
theorem NodeIn.get (ht : Tower Ls) (hi : NodeIn Ls 0 h lo n A B) (hk : sle lo key = true) (hc : n.covers key = true) : cget (content Ls) key = if hasK key n.keys then some (n.old key) else none :=
  (ht.get hi.lev (hi.atK hk hc)).2.2
/-- Does a key lie at one or above it (after: above)? -/
def abv (key : Str) (after : Bool) (x : Str) : Bool := if after then slt key x else sle key x
theorem cutE_lt {k : Str} : ∀ {l : List Str} {i : Nat} {x : Str}, i < cutE k l → l[i]? = some x → sle x k = true
  | [], i, x, h, _ => by simp [cutE] at h
  | y :: l, i, x, h, hx => by
    rw [cutE_cons] at h
    by_cases hy : sle y k = true
    · rw [if_pos hy] at h
      cases i with
      | zero => simp at hx; rw [← hx]; exact hy
      | succ i => exact cutE_lt (l := l) (i := i) (by omega) (by simpa using hx)
    · rw [if_neg hy] at h; omega
theorem cutE_at {k : Str} : ∀ {l : List Str} {x : Str}, l[cutE k l]? = some x → sle x k = false
  | [], x, h => by simp at h
  | y :: l, x, h => by
    rw [cutE_cons] at h
    by_cases hy : sle y k = true
    · rw [if_pos hy] at h
      exact cutE_at (l := l) (by simpa using h)
    · rw [if_neg hy] at h
      simp at h
      rw [← h]; simpa using hy
theorem place_lt {K : List Str} {i : Nat} {x : Str} (hx : K[i]? = some x) (ha : abv key after x = true) : place key after K ≤ i := by
  rcases Nat.lt_or_ge i (place key after K) with h1 | h1
  · unfold place at h1
    unfold abv at ha
    cases after
    · simp only [Bool.false_eq_true, if_false] at h1 ha
      rw [sle_iff, cut_lt h1 hx] at ha
      cases ha
    · simp only [if_true] at h1 ha
      have := cutE_lt h1 hx
      rw [sle_iff, ha] at this
      cases this
  · exact h1
theorem place_at {K : List Str} {x : Str} (hx : K[place key after K]? = some x) : abv key after x = true := by
  unfold place at hx
  unfold abv
  cases after
  · simp only [Bool.false_eq_true, if_false] at hx ⊢
    exact sle_iff.2 (cut_at hx)
  · simp only [if_true] at hx ⊢
    have := cutE_at hx
    unfold sle at this
    simpa using this
theorem place_none (hi : NodeIn Ls 0 h lo n A B) (ht : Tower Ls) {x : Str} (ha : abv key after x = true) (hl : sle lo x = true) (hc : n.covers x = true) (hp : ∀ k, n.keys[place key after n.keys]? = some k → slt x k = true) : cget (content Ls) x = none := by
  rw [hi.get ht hl hc]
  cases hk : hasK x n.keys
  · rfl
  · have h1 := hasK_iff.1 hk
    have h2 := place_lt h1 ha
    have h3 : place key after n.keys < n.keys.length := by have := (List.getElem?_eq_some_iff.1 h1).1; omega
    have h4 := hp _ (List.getElem?_eq_getElem h3)
    rcases Nat.lt_or_ge (place key after n.keys) (cut x n.keys) with h5 | h5
    · rw [slt_asymm (rise_lt hi.ok.rise h5 (List.getElem?_eq_getElem h3) h1)] at h4
      cases h4
    · have h6 : place key after n.keys = cut x n.keys := by omega
      rw [(List.getElem?_eq_some_iff.1 (show n.keys[place key after n.keys]? = some x by rw [h6]; exact h1)).2, slt_irrefl] at h4
      cases h4
end
/-- A reader's visits as plain data: the levels at a state, what there was till then, how many visits, how many writes are left. -/
structure Vis (σ : Type) where
  Ls : σ → List Lev
  ms : σ → List Cont
  cnt : σ → Nat
  wk : σ → Nat
  Step : σ → σ → Prop
/-- A tree a reader can go over. -/
structure Sane (Ls : List Lev) : Prop where
  tow : Tower Ls
  slim : Slim Ls
  len : Ls.length ≤ 1000
  nod : nodes Ls ≤ 20000
structure VisOK {σ : Type} (V : Vis σ) : Prop where
  evo : ∀ s s', V.Step s s' → Evo (V.Ls s) (V.Ls s')
  ms : ∀ s s', V.Step s s' → (∀ c, c ∈ V.ms s → c ∈ V.ms s') ∧ content (V.Ls s') ∈ V.ms s'
  work : ∀ s s', V.Step s s' → V.wk s' ≤ V.wk s ∧ (V.wk s' = V.wk s → V.Ls s' = V.Ls s)
  cnt : ∀ s s', V.Step s s' → V.cnt s' = V.cnt s + 1
section
variable {σ : Type} {V : Vis σ} {s0' s s' : σ} {j : Nat} {h : Hd} {lo key : Str} {n : BN} {A B : Lev} {after : Bool}
theorem sane_level {Ls : List Lev} (hs : Sane Ls) (hi : NodeIn Ls j h lo n A B) : j < 1000 ∧ B.length ≤ 20000 := by
  have h1 := (List.getElem?_eq_some_iff.1 hi.lev).1
  obtain ⟨X, Y, x1, _⟩ := lev_set (S' := []) hi.lev
  have h2 := hs.nod
  have h3 := hs.len
  unfold nodes at h2
  rw [x1] at h2
  simp only [List.length_append, List.length_cons] at h2
  exact ⟨by omega, by omega⟩
/-- Nobody writes. -/
def Static (V : Vis σ) : Prop := ∀ s s', V.Step s s' → V.Ls s' = V.Ls s
/-- On the way down. -/
structure LeafP (V : Vis σ) (s0' : σ) (key : Str) (s : σ) (j : Nat) (h : Hd) (lo : Str) (n : BN) (A B : Lev) : Prop where
  at' : NodeIn (V.Ls s) j h lo n A B
  low : sle lo key = true
  sta : Static V → V.cnt s + (j + 1) = V.cnt s0' + (V.Ls s0').length ∧ V.Ls s = V.Ls s0' ∧ n.covers key = true
def msr (V : Vis σ) (s : σ) (j : Nat) (B : Lev) : Nat := V.wk s * 100000000 + j * 30000 + B.length + 1
theorem LeafP.start (hs : Sane (V.Ls s)) {r : Hd} {m : BN} (ht : (V.Ls s)[(V.Ls s).length - 1]? = some [(r, m)]) : ∃ j, j + 1 = (V.Ls s).length ∧ LeafP V s key s j r ByteArray.empty m [] [] := by
  have h1 := (List.getElem?_eq_some_iff.1 ht).1
  refine ⟨(V.Ls s).length - 1, by omega, ?_⟩
  obtain ⟨lo, hi⟩ := hs.tow.inOf (A := []) (B := []) ht
  have e := seg_end hi.left
  have e' : lo = s0 := e.symm
  subst e'
  refine ⟨hi, sle_s0 key, fun _ => ⟨by omega, rfl, ?_⟩⟩
  obtain ⟨a, b, c⟩ := hi.right
  cases hb : m.bnd
  · simp [BN.covers, hb]
  · rw [if_pos hb] at c
    simp [Seg] at c
/-- A node behind a visit. -/
theorem look_in (hV : VisOK V) (hst : V.Step s s') (hs' : Sane (V.Ls s')) (hi : NodeIn (V.Ls s) j h lo n A B) :
    ∃ n' A' B', NodeIn (V.Ls s') j h lo n' A' B' ∧ msr V s' j B' ≤ msr V s j B ∧ (V.Ls s' = V.Ls s → n' = n ∧ B' = B) := by
  obtain ⟨w1, w2⟩ := hV.work s s' hst
  by_cases he : V.Ls s' = V.Ls s
  · refine ⟨n, A, B, by rw [he]; exact hi, ?_, fun _ => ⟨rfl, rfl⟩⟩
    unfold msr
    omega
  · obtain ⟨n', A', B', hi'⟩ := hs'.tow.nodeIn ((hV.evo s s' hst).has hi.has)
    refine ⟨n', A', B', hi', ?_, fun h => absurd h he⟩
    obtain ⟨l1, l2⟩ := sane_level hs' hi'
    have : V.wk s' ≠ V.wk s := fun h => he (w2 h)
    unfold msr
    omega
/-- On the way down, behind a visit. -/
structure LeafQ (V : Vis σ) (s0' : σ) (key : Str) (s : σ) (j : Nat) (h : Hd) (lo : Str) (n : BN) (A B : Lev) : Prop where
  at' : NodeIn (V.Ls s) j h lo n A B
  low : sle lo key = true
  sta : Static V → V.cnt s + j = V.cnt s0' + (V.Ls s0').length ∧ V.Ls s = V.Ls s0' ∧ n.covers key = true
theorem LeafP.look (hP : LeafP V s0' key s j h lo n A B) (hV : VisOK V) (hst : V.Step s s') (hs' : Sane (V.Ls s')) :
    ∃ n' A' B', LeafQ V s0' key s' j h lo n' A' B' ∧ msr V s' j B' ≤ msr V s j B := by
  obtain ⟨n', A', B', hi, hm, he⟩ := look_in hV hst hs' hP.at'
  refine ⟨n', A', B', ⟨hi, hP.low, fun hS => ?_⟩, hm⟩
  obtain ⟨s1, s2, s3⟩ := hP.sta hS
  have e := hS s s' hst
  have := hV.cnt s s' hst
  obtain ⟨e1, e2⟩ := he e
  exact ⟨by omega, e.trans s2, by rw [e1]; exact s3⟩
theorem LeafQ.right (hs : Sane (V.Ls s)) (hQ : LeafQ V s0' key s j h lo n A B) (hc : n.covers key = false) :
    ∃ (y : Hd × BN) (A' B' : Lev), n.next = y.1 ∧ LeafP V s0' key s j y.1 n.high y.2 A' B' ∧ msr V s j B' < msr V s j B := by
  obtain ⟨h1, h2⟩ := covers_false hc
  obtain ⟨y, B', e, h3, h4, h5⟩ := hQ.at'.nextB hs.tow h1
  refine ⟨y, _, B', h3, ⟨h5, h2, fun hS => ?_⟩, ?_⟩
  · have := (hQ.sta hS).2.2
    rw [hc] at this
    cases this
  · subst e
    unfold msr
    simp only [List.length_cons]
    omega
theorem LeafQ.down {i : Nat} (hs : Sane (V.Ls s)) (hQ : LeafQ V s0' key s (i + 1) h lo n A B) (hc : n.covers key = true) :
    ∃ z lo' m A' B', n.kids[cutE key n.keys]? = some z ∧ LeafP V s0' key s i z lo' m A' B' ∧ msr V s i B' < msr V s (i + 1) B := by
  obtain ⟨z, lo', m, A', B', h1, h2, h3, h4⟩ := hQ.at'.kid hs.tow hQ.low hc
  have hl := sane_level hs h2
  refine ⟨z, lo', m, A', B', h1, ⟨h2, h3, fun hS => ?_⟩, ?_⟩
  · obtain ⟨s1, s2, s3⟩ := hQ.sta hS
    exact ⟨by omega, s2, h4⟩
  · unfold msr
    omega
/-- A leaf that Next looks at. -/
structure NextP (V : Vis σ) (s0' : σ) (key : Str) (after : Bool) (s : σ) (h : Hd) (lo : Str) (n : BN) (A B : Lev) : Prop where
  at' : NodeIn (V.Ls s) 0 h lo n A B
  gap : ∀ x, abv key after x = true → slt x lo = true → ∃ c, c ∈ V.ms s ∧ cget c x = none
  con : content (V.Ls s) ∈ V.ms s
  sta : Static V → Fat (V.Ls s) → (V.cnt s ≤ V.cnt s0' + (V.Ls s0').length ∧ n.covers key = true) ∨ (V.cnt s ≤ V.cnt s0' + (V.Ls s0').length + 1 ∧ slt key lo = true ∧ 0 < n.keys.length)
theorem abv_sle {x : Str} (h : abv key after x = true) : sle key x = true := by
  unfold abv at h
  cases after
  · exact h
  · exact slt_sle h
theorem LeafQ.next (hQ : LeafQ V s0' key s 0 h lo n A B) (hm : content (V.Ls s) ∈ V.ms s) (hc : n.covers key = true) : NextP V s0' key after s h lo n A B := by
  refine ⟨hQ.at', fun x h1 h2 => ?_, hm, fun hS _ => .inl ⟨?_, hc⟩⟩
  · have := sle_slt (sle_trans hQ.low (abv_sle h1)) h2
    rw [slt_irrefl] at this
    cases this
  · have := (hQ.sta hS).1
    omega
/-- What Next may tell. -/
structure NextOK (V : Vis σ) (s0' : σ) (key : Str) (after : Bool) (s : σ) (o : Option (Str × Str)) : Prop where
  is : ∀ p, o = some p → cget (content (V.Ls s)) p.1 = some p.2 ∧ abv key after p.1 = true
  gap : ∀ x, abv key after x = true → (∀ p, o = some p → slt x p.1 = true) → ∃ c, c ∈ V.ms s ∧ cget c x = none
  sta : Static V → Fat (V.Ls s) → V.cnt s ≤ V.cnt s0' + (V.Ls s0').length + 1
theorem place_le {K : List Str} : place key after K ≤ K.length := by
  unfold place
  split
  · exact cutE_le _ _
  · exact cut_le _ _
theorem NextP.found (hs : Sane (V.Ls s)) (hP : NextP V s0' key after s h lo n A B) {k v : Str} (hk : n.keys[place key after n.keys]? = some k) (hv : n.vals[place key after n.keys]? = some v) : NextOK V s0' key after s (some (k, v)) := by
  have hmem : k ∈ n.keys := List.mem_of_getElem? hk
  have hlo := hP.at'.ok.low k hmem
  have hco := hP.at'.ok.cov k hmem
  have hab := place_at (after := after) hk
  refine ⟨fun p hp => ?_, fun x h1 h2 => ?_, fun hS hF => ?_⟩
  · injection hp with hp
    subst hp
    refine ⟨?_, hab⟩
    rw [hP.at'.get hs.tow hlo hco]
    have hh : hasK k n.keys = true := (hasK_mem hP.at'.ok.rise).2 hmem
    have hcut : cut k n.keys = place key after n.keys := by
      have g1 := hasK_iff.1 hh
      rcases Nat.lt_trichotomy (cut k n.keys) (place key after n.keys) with g | g | g
      · have := rise_lt hP.at'.ok.rise g g1 hk
        rw [slt_irrefl] at this; cases this
      · exact g
      · have := rise_lt hP.at'.ok.rise g hk g1
        rw [slt_irrefl] at this; cases this
    rw [if_pos hh]
    unfold BN.old
    rw [if_pos hh, hcut, List.getD_eq_getElem?_getD, hv]
    rfl
  · have h3 := h2 _ rfl
    simp only at h3
    cases h4 : slt x lo
    · refine ⟨_, hP.con, place_none hP.at' hs.tow h1 (sle_iff.2 h4) ?_ (fun k' hk' => ?_)⟩
      · rw [covers_hi] at hco ⊢
        cases hq : n.hi with
        | none => rfl
        | some z =>
          rw [hq] at hco
          exact slt_trans h3 hco
      · rw [hk] at hk'
        injection hk' with hk'
        rw [← hk']; exact h3
    · exact hP.gap x h1 h4
  · rcases hP.sta hS hF with h | h <;> omega
theorem NextP.none (hs : Sane (V.Ls s)) (hP : NextP V s0' key after s h lo n A B) (hp : place key after n.keys = n.keys.length) (hb : n.bnd = false) : NextOK V s0' key after s none := by
  refine ⟨fun p hp => (by cases hp), fun x h1 _ => ?_, fun hS hF => ?_⟩
  · cases h4 : slt x lo
    · refine ⟨_, hP.con, place_none hP.at' hs.tow h1 (sle_iff.2 h4) (by simp [BN.covers, hb]) (fun k' hk' => ?_)⟩
      rw [hp, List.getElem?_eq_none (Nat.le_refl _)] at hk'
      cases hk'
    · exact hP.gap x h1 h4
  · rcases hP.sta hS hF with h | h <;> omega
theorem NextP.go (hs : Sane (V.Ls s)) (hP : NextP V s0' key after s h lo n A B) (hp : place key after n.keys = n.keys.length) (hb : n.bnd = true) :
    ∃ (y : Hd × BN) (A' B' : Lev), n.next = y.1 ∧ NodeIn (V.Ls s) 0 y.1 n.high y.2 A' B' ∧ msr V s 0 B' < msr V s 0 B ∧ ∀ s' n' A2 B2, VisOK V → V.Step s s' → Sane (V.Ls s') → NodeIn (V.Ls s') 0 y.1 n.high n' A2 B2 → (V.Ls s' = V.Ls s → n' = y.2) → NextP V s0' key after s' y.1 n.high n' A2 B2 := by
  obtain ⟨y, B', e, h3, h4, h5⟩ := hP.at'.nextB hs.tow hb
  refine ⟨y, _, B', h3, h5, by subst e; unfold msr; simp only [List.length_cons]; omega, fun s' n' A2 B2 hV hst hs' hi he => ⟨hi, fun x h1 h2 => ?_, (hV.ms s s' hst).2, fun hS hF => ?_⟩⟩
  · have hsub := (hV.ms s s' hst).1
    cases h6 : slt x lo
    · refine ⟨_, hsub _ hP.con, place_none hP.at' hs.tow h1 (sle_iff.2 h6) (by simp [BN.covers, h2]) (fun k' hk' => ?_)⟩
      rw [hp, List.getElem?_eq_none (Nat.le_refl _)] at hk'
      cases hk'
    · obtain ⟨c, c1, c2⟩ := hP.gap x h1 h6
      exact ⟨c, hsub c c1, c2⟩
  · have e1 := hS s s' hst
    have e2 := hV.cnt s s' hst
    rw [e1] at hF
    rcases hP.sta hS hF with ⟨a1, a2⟩ | ⟨a1, a2, a3⟩
    · right
      refine ⟨by omega, ?_, ?_⟩
      · unfold BN.covers at a2
        rw [hb] at a2
        simpa using a2
      · rcases hF with hF | hF
        · obtain ⟨z, hz⟩ := hs.tow.top
          rw [hF] at hz
          have hl := hP.at'.lev
          rw [e] at hl
          simp only [Nat.sub_self] at hz
          rw [hl] at hz
          injection hz with hz
          have := congrArg List.length hz
          simp only [List.length_append, List.length_cons, List.length_nil] at this
          omega
        · have := hF _ h5.lev y (by simp)
          rw [he e1]
          omega
    · exfalso
      have : place key after n.keys ≤ 0 := place_lt (List.getElem?_eq_getElem a3) (by
        have h7 := hP.at'.ok.low _ (List.getElem_mem a3)
        unfold abv
        cases after
        · exact slt_sle (slt_sle' a2 h7)
        · exact slt_sle' a2 h7)
      omega
/-- Where nothing was written, Next tells the next pair. -/
theorem NextOK.eq {C : Cont} {o : Option (Str × Str)} (hC : CSort C) (hN : NextOK V s0' key after s o) (h1 : content (V.Ls s) = C) (h2 : ∀ c, c ∈ V.ms s → c = C) : o = cnext C key after := by
  have hin : ∀ q, q ∈ C → cget C q.1 ≠ Option.none := fun q hq hn => by
    unfold cget at hn
    simp only [Option.map_eq_none_iff, List.find?_eq_none] at hn
    have := hn q hq
    simp at this
  have hcn : cnext C key after = C.find? fun p => abv key after p.1 := by
    unfold cnext abv
    rfl
  rw [hcn]
  cases hf : C.find? fun p => abv key after p.1 with
  | none =>
    cases o with
    | none => rfl
    | some p =>
      obtain ⟨a1, a2⟩ := hN.is p rfl
      rw [h1] at a1
      unfold cget at a1
      simp only [Option.map_eq_some_iff] at a1
      obtain ⟨q, a3, a4⟩ := a1
      have a5 := List.mem_of_find?_eq_some a3
      have a6 := List.find?_some a3
      simp only [decide_eq_true_eq] at a6
      have := List.find?_eq_none.1 hf q a5
      rw [a6, a2] at this
      simp at this
  | some q =>
    obtain ⟨b1, la, lb, b2, b3⟩ := List.find?_eq_some_iff_append.1 hf
    have hq : q ∈ C := by rw [b2]; simp
    cases o with
    | none =>
      obtain ⟨c, c1, c2⟩ := hN.gap q.1 b1 (fun p hp => by cases hp)
      rw [h2 c c1] at c2
      exact absurd c2 (hin q hq)
    | some p =>
      obtain ⟨a1, a2⟩ := hN.is p rfl
      rw [h1] at a1
      unfold cget at a1
      simp only [Option.map_eq_some_iff] at a1
      obtain ⟨p', a3, a4⟩ := a1
      have a5 := List.mem_of_find?_eq_some a3
      have a6 := List.find?_some a3
      simp only [decide_eq_true_eq] at a6
      have hpp : p' = p := by
        obtain ⟨p1, p2⟩ := p
        obtain ⟨q1, q2⟩ := p'
        simp only at a4 a6
        rw [a4, a6]
      subst hpp
      rw [b2] at a5
      simp only [List.mem_append, List.mem_cons] at a5
      rcases a5 with a5 | rfl | a5
      · have := b3 _ a5
        rw [a2] at this
        simp at this
      · rfl
      · have hs := hC
        rw [b2] at hs
        have hlt := (List.pairwise_cons.1 (List.pairwise_append.1 hs).2.1).1 _ a5
        obtain ⟨c, c1, c2⟩ := hN.gap q.1 b1 (fun p hp => by injection hp with hp; rw [← hp]; exact hlt)
        rw [h2 c c1] at c2
        exact absurd c2 (hin q hq)
end
end Go.Proofs.Ytlhobbfncjjeaaa
