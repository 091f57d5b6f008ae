/- Collect of package epoch, whatever the functions are that are retired: what they do is a premise (Clo). -/
import Derived.Test.YtidiefcgepllmaaEpoch
import Derived.Test.YtidiefcgepllmaaCloneOfRet
import Derived.Defers
import Derived.RegionCalls
import Derived.Laws.EntriesVeiled
namespace Go.Proofs.Ytidiefcgepllmaa
open Go.RowKit
structure EpG where
  S : List Pn
  c : Nat
  now : Nat
section
variable {σ : Type}
/-- An Epoch in memory, and the rest of a law's world, whose blocks are O. -/
structure EJ (J : σ → List Nat → World → Prop) (base e m : Nat) (w : World) (v : Value) (O : List Nat) (x : σ) (g : EpG) (b : Bool) (L : List Ret) : Prop where
  ep : EpIs base w e m v g.S g.c g.now b L
  rest : J x O w
  de : e ∉ O
  dm : m ∉ O
  dv : ∀ q, v.ownBlock = some q → q ∉ O
def foot (e m : Nat) (v : Value) (O : List Nat) : List Nat := e :: m :: (v.ownBlock.toList ++ O)
def Grw (w : World) (F F' : List Nat) : Prop := ∀ k, k ∈ F' → k ∈ F ∨ w.heap.size ≤ k
def RunEnd (J : σ → List Nat → World → Prop) (R : Ret → σ → EpG → σ → EpG → List Ret → Prop) (base e m : Nat) (r : Ret) (v : Value) (O : List Nat) (x : σ) (g : EpG) (L : List Ret) (w : World) (z : Ending) (w' : World) : Prop :=
  z = .returned (.tuple #[]) ∧ ∃ v' O' x' g' app, EJ J base e m w' v' O' x' g' true (L ++ app) ∧ R r x g x' g' app ∧ Upd (foot e m v O) w w' ∧ Grw w (foot e m v O) (foot e m v' O')
/-- What the functions that are retired do, when they are run. -/
structure Clo (J : σ → List Nat → World → Prop) (R : Ret → σ → EpG → σ → EpG → List Ret → Prop) (base e m : Nat) (A : Ret → Prop) (N : Nat) (ok : Nat → σ → EpG → Prop) : Prop where
  stab : ∀ x O w w' T, J x O w → Upd T w w' → (∀ k, k ∈ T → k ∉ O) → J x O w'
  lt : ∀ x O w, J x O w → ∀ k, k ∈ O → base ≤ k ∧ k < w.heap.size
  app : ∀ r x g x' g' l, R r x g x' g' l → l.length ≤ 1
  down : ∀ k x g, ok (k + 1) x g → ok k x g
  okr : ∀ r k x g x' g' l, R r x g x' g' l → ok (k + 1) x g → ok k x' g'
  enter : ∀ r, A r → ∀ args w, (callFunc r.f args).run Try.prog w = .ok (.enter r.f args) w
  run : ∀ r, A r → ∀ x g O v L w, EJ J base e m w v O x g true L → L.length ≤ N → base ≤ w.heap.size → (∃ k, ok (k + 1) x g) → Calls Try.prog r.f r.caps w (RunEnd J R base e m r v O x g L w)
/-- Which of those that were left are run, in which order, and what is left. -/
inductive Coll (R : Ret → σ → EpG → σ → EpG → List Ret → Prop) (x0 : σ) (g0 : EpG) : List Ret → σ → EpG → List Ret → List Ret → Nat → Prop
  | nil : Coll R x0 g0 [] x0 g0 [] [] 0
  | skip {xs x g kept later n r} : Coll R x0 g0 xs x g kept later n → ¬ (∀ y, y ∈ g.S → r.at' < y.t) → Coll R x0 g0 (xs ++ [r]) x g (kept ++ [r]) later n
  | run {xs x g kept later n r x' g' app} : Coll R x0 g0 xs x g kept later n → (∀ y, y ∈ g.S → r.at' < y.t) → R r x g x' g' app → Coll R x0 g0 (xs ++ [r]) x' g' kept (later ++ app) (n + 1)
theorem Coll.len {R : Ret → σ → EpG → σ → EpG → List Ret → Prop} (hR : ∀ r x g x' g' l, R r x g x' g' l → l.length ≤ 1) {x0 x : σ} {g0 g : EpG} {xs kept later : List Ret} {n : Nat} (h : Coll R x0 g0 xs x g kept later n) : later.length ≤ n ∧ kept.length + n = xs.length := by
  induction h with
  | nil => simp
  | skip _ _ ih => simp; omega
  | run _ _ h3 ih => have := hR _ _ _ _ _ _ h3; simp; omega
/-- The state of Collect: kv holds what is kept, lv (in the field left) holds M. -/
structure CI (J : σ → List Nat → World → Prop) (base e m : Nat) (w0 : World) (F0 : List Nat) (av : Value) (L : List Ret) (pb : Nat) (w : World) (kv : Value) (kept : List Ret) (lv : Value) (O : List Nat) (x : σ) (g : EpG) (M : List Ret) : Prop where
  ej : EJ J base e m w lv O x g true M
  all : RetRow base w av L
  row : RetRow base w kv kept
  box : w.heap[pb]? = some (.cells #[.pointer (some ⟨e, 0, none⟩)] 22)
  da : ∀ q, av.ownBlock = some q → q ∉ foot e m lv O ∧ kv.ownBlock ≠ some q ∧ q ≠ pb
  dk : ∀ q, kv.ownBlock = some q → q ∉ foot e m lv O ∧ q ≠ pb ∧ w0.heap.size ≤ q
  dp : pb ∉ foot e m lv O
  siz : base ≤ w0.heap.size
  upd : Upd F0 w0 w
  grw : Grw w0 F0 (foot e m lv O)
variable {J : σ → List Nat → World → Prop} {R : Ret → σ → EpG → σ → EpG → List Ret → Prop} {A : Ret → Prop} {N : Nat} {ok : Nat → σ → EpG → Prop} {base e m : Nat} {w0 w w1 : World} {F0 : List Nat} {av kv lv lv' kv' : Value} {L kept kept' M M' : List Ret} {pb : Nat} {O : List Nat} {x : σ} {g : EpG}
theorem EJ.upd {T : List Nat} {b : Bool} (hC : Clo J R base e m A N ok) (h : EJ J base e m w lv O x g b M) (hu : Upd T w w1) (hT : ∀ k, k ∈ T → k ∉ foot e m lv O) : EJ J base e m w1 lv O x g b M := by
  have h1 : ∀ k, k ∈ foot e m lv O → k ∉ T := fun k hk hh => hT k hh hk
  refine ⟨h.ep.upd hu (h1 _ (by simp [foot])) (h1 _ (by simp [foot])) (fun k hk => h1 _ (by simp [foot, hk])), hC.stab _ _ _ _ _ h.rest hu (fun k hk hO => hT k hk (by simp [foot, hO])), h.de, h.dm, h.dv⟩
theorem CI.other {T : List Nat} (hC : Clo J R base e m A N ok) (h : CI J base e m w0 F0 av L pb w kv kept lv O x g M) (hu : Upd T w w1) (hT : ∀ k, k ∈ T → k ∉ foot e m lv O ∧ av.ownBlock ≠ some k ∧ k ≠ pb ∧ w0.heap.size ≤ k) (hr : RetRow base w1 kv' kept') (hk : ∀ q, kv'.ownBlock = some q → (kv.ownBlock = some q ∨ w.heap.size ≤ q)) :
    CI J base e m w0 F0 av L pb w1 kv' kept' lv O x g M := by
  have hlt := hC.lt _ _ _ h.ej.rest
  have hfl : ∀ k, k ∈ foot e m lv O → k < w.heap.size := by
    intro k hk
    simp only [foot, List.mem_cons, List.mem_append] at hk
    rcases hk with rfl | rfl | hk | hk
    · exact heap_lt h.ej.ep.at'.blk
    · exact heap_lt h.ej.ep.at'.map
    · exact (h.ej.ep.row.lt _ (mem_own hk)).2
    · exact (hlt _ hk).2
  refine ⟨h.ej.upd hC hu (fun k hk => (hT k hk).1), h.all.upd hu (fun b hb hh => (hT b hh).2.1 hb), hr, hu.heap h.box (fun hh => (hT _ hh).2.2.1 rfl), fun q hq => ⟨(h.da q hq).1, fun hh => ?_, (h.da q hq).2.2⟩, fun q hq => ?_, h.dp, h.siz, h.upd.via hu (fun k hk => .inr (hT k hk).2.2.2), h.grw⟩
  · rcases hk q hh with h1 | h1
    · exact (h.da q hq).2.1 h1
    · have := (h.all.lt q hq).2; omega
  · rcases hk q hq with h1 | h1
    · exact h.dk q h1
    · refine ⟨fun hh => by have := hfl q hh; omega, ?_, Nat.le_trans h.upd.size h1⟩
      have := heap_lt h.box
      omega
theorem CI.below (hC : Clo J R base e m A N ok) (h : CI J base e m w0 F0 av L pb w kv kept lv O x g M) (hb : Below w.heap.size w w1) : CI J base e m w0 F0 av L pb w1 kv kept lv O x g M :=
  h.other hC (Upd.of_below (S := []) hb) (by simp) (h.row.below hb) (fun q hq => .inl hq)
/-- Another slice in the field left. -/
theorem CI.left {T : List Nat} (hC : Clo J R base e m A N ok) (h : CI J base e m w0 F0 av L pb w kv kept lv O x g M) (hu : Upd T w w1) (hT : ∀ k, k ∈ T → lv.ownBlock = some k) (hr : RetRow base w1 lv' M') (hn : ∀ q, lv'.ownBlock = some q → lv.ownBlock = some q ∨ w.heap.size ≤ q) :
    CI J base e m w0 F0 av L pb (w1.setCell ⟨e, 1, none⟩ lv') kv kept lv' O x g M' := by
  have hlt := hC.lt _ _ _ h.ej.rest
  have hel := heap_lt h.ej.ep.at'.blk
  have hml := heap_lt h.ej.ep.at'.map
  have hoe : lv'.ownBlock ≠ some e := fun hh => by
    rcases hn _ hh with h1 | h1
    · exact h.ej.ep.oe h1
    · omega
  have hom : lv'.ownBlock ≠ some m := fun hh => by
    rcases hn _ hh with h1 | h1
    · exact h.ej.ep.om h1
    · omega
  have hTe : e ∉ T := fun hh => h.ej.ep.oe (hT _ hh)
  have hTm : m ∉ T := fun hh => h.ej.ep.om (hT _ hh)
  obtain ⟨hE, hU⟩ := h.ej.ep.left hu hTe hTm hr hoe hom
  have hTf : ∀ k, k ∈ e :: T → k ∈ foot e m lv O := by
    intro k hk
    rcases List.mem_cons.1 hk with rfl | hk
    · simp [foot]
    · simp [foot, hT k hk]
  have hgf : ∀ k, k ∈ foot e m lv' O → k ∈ foot e m lv O ∨ w.heap.size ≤ k := by
    intro k hk
    simp only [foot, List.mem_cons, List.mem_append] at hk ⊢
    rcases hk with rfl | rfl | hk | hk
    · exact .inl (.inl rfl)
    · exact .inl (.inr (.inl rfl))
    · rcases hn _ (mem_own hk) with h1 | h1
      · exact .inl (.inr (.inr (.inl (by rw [h1]; simp))))
      · exact .inr h1
    · exact .inl (.inr (.inr (.inr hk)))
  have hao : ∀ q, av.ownBlock = some q → q ∉ foot e m lv' O := fun q hq hh => by
    rcases hgf q hh with h1 | h1
    · exact (h.da q hq).1 h1
    · have := (h.all.lt q hq).2; omega
  have hko : ∀ q, kv.ownBlock = some q → q ∉ foot e m lv' O := fun q hq hh => by
    rcases hgf q hh with h1 | h1
    · exact (h.dk q hq).1 h1
    · have := (h.row.lt q hq).2; omega
  have hpo : pb ∉ foot e m lv' O := fun hh => by
    rcases hgf _ hh with h1 | h1
    · exact h.dp h1
    · have := heap_lt h.box; omega
  refine ⟨⟨hE, hC.stab _ _ _ _ _ h.ej.rest hU (fun k hk hO => ?_), h.ej.de, h.ej.dm, fun q hq hO => ?_⟩, h.all.upd hU (fun b hb hh => (h.da b hb).1 (hTf _ hh)), h.row.upd hU (fun b hb hh => (h.dk b hb).1 (hTf _ hh)), hU.heap h.box (fun hh => h.dp (hTf _ hh)), fun q hq => ⟨hao q hq, (h.da q hq).2⟩, fun q hq => ⟨hko q hq, (h.dk q hq).2⟩, hpo, h.siz, h.upd.via hU (fun k hk => ?_), fun k hk => ?_⟩
  · rcases List.mem_cons.1 hk with rfl | hk
    · exact h.ej.de hO
    · exact h.ej.dv k (hT k hk) hO
  · rcases hn q hq with h1 | h1
    · exact h.ej.dv q h1 hO
    · have := (hlt q hO).2; omega
  · exact h.grw k (hTf k hk)
  · rcases hgf k hk with h1 | h1
    · exact h.grw k h1
    · exact .inr (Nat.le_trans h.upd.size h1)
theorem EpIs.busy {b b' : Bool} {c now : Nat} {S : List Pn} (h : EpIs base w e m lv S c now b M) : EpIs base (w.setCell ⟨e, 3, none⟩ (.bool b')) e m lv S c now b' M ∧ Upd [e] w (w.setCell ⟨e, 3, none⟩ (.bool b')) := by
  have hs : Upd [e] w (w.setCell ⟨e, 3, none⟩ (.bool b')) := (Upd.refl _ _).setCell (p := ⟨e, 3, none⟩) (by simp) _
  refine ⟨⟨⟨?_, hs.heap h.at'.map (by simp; exact fun hh => h.at'.ne hh.symm), h.at'.bd, h.at'.nd, h.at'.ne⟩, h.row.upd hs (fun q hq hh => ?_), h.oe, h.om⟩, hs⟩
  · rw [heap_set_same h.at'.blk]; rfl
  · simp at hh; exact h.oe (by rw [hq, hh])
/-- At the end: what is kept goes back into the field left. -/
theorem CI.fin (hC : Clo J R base e m A N ok) (h : CI J base e m w0 F0 av L pb w kv kept lv O x g M) :
    EJ J base e m ((w.setCell ⟨e, 1, none⟩ kv).setCell ⟨e, 3, none⟩ (.bool false)) kv O x g false kept ∧ Upd F0 w0 ((w.setCell ⟨e, 1, none⟩ kv).setCell ⟨e, 3, none⟩ (.bool false)) ∧ Grw w0 F0 (foot e m kv O) := by
  have hne : ∀ q, q ∈ foot e m lv O → kv.ownBlock ≠ some q := fun q hq hh => (h.dk q hh).1 hq
  obtain ⟨hE, hU⟩ := h.ej.ep.left (Upd.refl [] w) (by simp) (by simp) h.row (hne e (by simp [foot])) (hne m (by simp [foot]))
  obtain ⟨hE2, hU2⟩ := hE.busy (b' := false)
  have hu := hU.trans hU2
  refine ⟨⟨hE2, hC.stab _ _ _ _ _ h.ej.rest hu (by simp; exact h.ej.de), h.ej.de, h.ej.dm, fun q hq hO => (h.dk q hq).1 (by simp [foot, hO])⟩, h.upd.via hu (fun k hk => ?_), fun k hk => ?_⟩
  · simp at hk
    subst hk
    exact h.grw k (by simp [foot])
  · simp only [foot, List.mem_cons, List.mem_append] at hk
    rcases hk with rfl | rfl | hk | hk
    · exact h.grw _ (by simp [foot])
    · exact h.grw _ (by simp [foot])
    · exact .inr (h.dk k (mem_own hk)).2.2
    · exact h.grw _ (by simp [foot, hk])
theorem CI.door (h : CI J base e m w0 F0 av L pb w kv kept lv O x g M) (u : Value) : (w.setCell ⟨e, 1, none⟩ u).cell? ⟨pb, 0, none⟩ = some (.pointer (some ⟨e, 0, none⟩)) ∧ (w.setCell ⟨e, 1, none⟩ u).cell? ⟨e, 3, none⟩ = some (.bool true) ∧ (w.setCell ⟨e, 1, none⟩ u).frozen? ⟨e, 3, none⟩ = false := by
  have hb : (w.setCell ⟨e, 1, none⟩ u).heap[pb]? = some (.cells #[.pointer (some ⟨e, 0, none⟩)] 22) := by
    rw [heap_set_other _ _ (fun hh => h.dp (by rw [hh]; simp [foot]))]
    exact h.box
  have he := heap_set_same h.ej.ep.at'.blk 1 u
  refine ⟨?_, ?_, frozen_of_heap he 3⟩
  · rw [cell_of_heap hb]; rfl
  · rw [cell_of_heap he]; rfl
/-- At the beginning. -/
theorem CI.start {v : Value} (hC : Clo J R base e m A N ok) (h : EJ J base e m w v O x g false L) (hb : base ≤ w.heap.size) :
    CI J base e m w (foot e m v O) v L w.heap.size (((w.setCell ⟨e, 3, none⟩ (.bool true)).setCell ⟨e, 1, none⟩ (.slice none 0 0)).alloc (.cells #[.pointer (some ⟨e, 0, none⟩)] 22)) (.slice none 0 0) [] (.slice none 0 0) O x g [] := by
  have hlt := hC.lt _ _ _ h.rest
  have hel := heap_lt h.ep.at'.blk
  have hml := heap_lt h.ep.at'.map
  obtain ⟨hE1, hU1⟩ := h.ep.busy (b' := true)
  obtain ⟨hE2, hU2⟩ := hE1.left (Upd.refl [] _) (by simp) (by simp) (Row.nil ret_len ret_one base 56 _) (by simp [Value.ownBlock]) (by simp [Value.ownBlock])
  have hU := (hU1.trans hU2).alloc (.cells #[.pointer (some ⟨e, 0, none⟩)] 22)
  have hsz : ((w.setCell ⟨e, 3, none⟩ (.bool true)).setCell ⟨e, 1, none⟩ (.slice none 0 0)).heap.size = w.heap.size := by simp [World.setCell]
  have hbx := heap_alloc_new ((w.setCell ⟨e, 3, none⟩ (.bool true)).setCell ⟨e, 1, none⟩ (.slice none 0 0)) (.cells #[.pointer (some ⟨e, 0, none⟩)] 22)
  rw [hsz] at hbx
  refine ⟨⟨hE2.below ((Below.refl _ _).alloc (Nat.le_refl _) _), hC.stab _ _ _ _ _ h.rest hU (by simp; exact h.de), h.de, h.dm, by simp [Value.ownBlock]⟩, h.ep.row.upd hU (fun q hq hh => ?_), Row.nil ret_len ret_one _ _ _, hbx, fun q hq => ⟨fun hh => ?_, by simp [Value.ownBlock], ?_⟩, by simp [Value.ownBlock], fun hh => ?_, hb, hU.mono (by simp [foot]), fun k hk => .inl ?_⟩
  · simp at hh; exact h.ep.oe (by rw [hq, hh])
  · simp only [foot, List.mem_cons, List.mem_append] at hh
    rcases hh with rfl | rfl | hh | hh
    · exact h.ep.oe hq
    · exact h.ep.om hq
    · simp [Value.ownBlock] at hh
    · exact h.dv q hq hh
  · have := (h.ep.row.lt q hq).2
    omega
  · simp only [foot, List.mem_cons, List.mem_append] at hh
    rcases hh with hh | hh | hh | hh
    · omega
    · omega
    · simp [Value.ownBlock] at hh
    · have := (hlt _ hh).2; omega
  · simp only [foot, List.mem_cons, List.mem_append] at hk ⊢
    rcases hk with rfl | rfl | hh | hh
    · exact .inl rfl
    · exact .inr (.inl rfl)
    · simp [Value.ownBlock] at hh
    · exact .inr (.inr (.inr hh))
/-- A function is run. -/
theorem CI.run {O' : List Nat} {x' : σ} {g' : EpG} (h : CI J base e m w0 F0 av L pb w kv kept lv O x g M) (hE : EJ J base e m w1 lv' O' x' g' true M') (hu : Upd (foot e m lv O) w w1) (hg : Grw w (foot e m lv O) (foot e m lv' O')) :
    CI J base e m w0 F0 av L pb w1 kv kept lv' O' x' g' M' := by
  refine ⟨hE, h.all.upd hu (fun b hb => (h.da b hb).1), h.row.upd hu (fun b hb => (h.dk b hb).1), hu.heap h.box h.dp, fun q hq => ⟨fun hh => ?_, (h.da q hq).2⟩, fun q hq => ⟨fun hh => ?_, (h.dk q hq).2⟩, fun hh => ?_, h.siz, h.upd.via hu h.grw, fun k hk => ?_⟩
  · rcases hg q hh with h1 | h1
    · exact (h.da q hq).1 h1
    · have := (h.all.lt q hq).2; omega
  · rcases hg q hh with h1 | h1
    · exact (h.dk q hq).1 h1
    · have := (h.row.lt q hq).2; omega
  · rcases hg _ hh with h1 | h1
    · exact h.dp h1
    · have := heap_lt h.box; omega
  · rcases hg k hk with h1 | h1
    · exact h.grw k h1
    · exact .inr (Nat.le_trans h.upd.size h1)
end
/-- What was appended to a slice that lies in new memory lies in new memory. -/
theorem grown_below {n : Nat} {w w1 w2 : World} {v v' : Value} (hb : Below n w w1) (hn : n ≤ w1.heap.size) (hv : ∀ b, v.ownBlock = some b → n ≤ b) (hu : Upd v.ownBlock.toList w1 w2) (hat : v'.ownBlock = v.ownBlock ∨ v'.ownBlock = some w1.heap.size) :
    Below n w w2 ∧ ∀ b, v'.ownBlock = some b → n ≤ b := by
  refine ⟨hb.trans (hu.below hn (fun k hk => hv k (mem_own hk))), fun b hb' => ?_⟩
  rcases hat with h | h
  · exact hv b (by rw [← h]; exact hb')
  · rw [h] at hb'
    injection hb' with hb'
    omega
/-- The closure that Collect defers. -/
theorem epCollect1_deferred (pb e : Nat) (x : Value) (u : FrameMode) (w : World) (hb : w.cell? ⟨pb, 0, none⟩ = some (.pointer (some ⟨e, 0, none⟩))) (hc : w.cell? ⟨e, 3, none⟩ = some x) (hf : w.frozen? ⟨e, 3, none⟩ = false) :
    CallsD Try.prog 27 #[.pointer (some ⟨pb, 0, none⟩)] u w fun z u' w' => u' = u ∧ (z = .returned (.tuple #[]) ∧ w' = w.setCell ⟨e, 3, none⟩ (.bool false)) := by
  go_enter_d Try.func27, Try.ntmps27
  go_wp2
  go_end0
  exact ⟨rfl, rfl⟩
end Go.Proofs.Ytidiefcgepllmaa
