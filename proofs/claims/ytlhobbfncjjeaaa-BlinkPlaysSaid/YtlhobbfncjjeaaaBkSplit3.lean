/- Steps of a B-link tree's world: a node written, a node put in; no function of package blink in sight. A leaf of a B-link tree is written. A B-link tree's nodes without the order in which they stand: what a split goes through between two trees. What the contract of a B-link tree's split needs: boxes, slices of the call's own, a node put in; no walk. -/
import Derived.Test.YtlhobbfncjjeaaaBkNeed
namespace Go.Proofs.Ytlhobbfncjjeaaa
open Go.RowKit
section
variable {w0 w w1 w2 : World} {ρ ρ' : Nat → Nat} {P : Nat × Nat × Nat} {gens : List Int} {free : List Bool} {D : List ArD} {rs : List Nat} {rt i t : Nat} {d : ArD} {Ls : List Lev} {r : Hd} {size : Nat}
/-- Arena i alone is another one. -/
def SameD (i : Nat) (D D' : List ArD) : Prop := D'.length = D.length ∧ (∀ j, j ≠ i → D'[j]? = D[j]?) ∧
  ∀ d' e', D'[i]? = some d' → e' ∈ d'.A.L → (∃ d e, D[i]? = some d ∧ e ∈ d.A.L ∧ e.slot = e'.slot) ∨ ∀ j dj e, j ≠ i → D[j]? = some dj → e ∈ dj.A.L → e.slot ≠ e'.slot
theorem SameD.refl (i : Nat) (D : List ArD) : SameD i D D := ⟨rfl, fun _ _ => rfl, fun d e h1 h2 => .inl ⟨d, e, h1, h2, rfl⟩⟩
theorem SameD.trans {i : Nat} {D D' D2 : List ArD} (h : SameD i D D') (k : SameD i D' D2) : SameD i D D2 :=
  ⟨k.1.trans h.1, fun j hj => (k.2.1 j hj).trans (h.2.1 j hj), fun d2 e2 h1 h2 => by
    rcases k.2.2 d2 e2 h1 h2 with ⟨d1, e1, g1, g2, g3⟩ | g
    · rcases h.2.2 d1 e1 g1 g2 with ⟨d0, e0, f1, f2, f3⟩ | f
      · exact .inl ⟨d0, e0, f1, f2, f3.trans g3⟩
      · exact .inr fun j dj e hj hd he => by rw [← g3]; exact f j dj e hj hd he
    · exact .inr fun j dj e hj hd he => g j dj e hj (by rw [h.2.1 j hj]; exact hd) he⟩
theorem SameD.set (i : Nat) (D : List ArD) (d : ArD) (hs : ∀ e', e' ∈ d.A.L → (∃ d0 e, D[i]? = some d0 ∧ e ∈ d0.A.L ∧ e.slot = e'.slot) ∨ ∀ j dj e, j ≠ i → D[j]? = some dj → e ∈ dj.A.L → e.slot ≠ e'.slot) : SameD i D (D.set i d) :=
  ⟨by simp, fun j hj => by rw [List.getElem?_set, if_neg (fun h => hj h.symm)], fun d' e' h1 h2 => by
    rw [List.getElem?_set, if_pos rfl] at h1
    split at h1
    · injection h1 with h1
      subst h1
      exact hs e' h2
    · cases h1⟩
/-- Things are written, none is put in. -/
theorem same_map {i : Nat} {D : List ArD} {d0 : ArD} (hd : D[i]? = some d0) {f : AEnt → AEnt} (hf : ∀ e, (f e).slot = e.slot) : ∀ e', e' ∈ d0.A.L.map f → (∃ d0 e, D[i]? = some d0 ∧ e ∈ d0.A.L ∧ e.slot = e'.slot) ∨ ∀ j dj e, j ≠ i → D[j]? = some dj → e ∈ dj.A.L → e.slot ≠ e'.slot := fun e' he => by
  obtain ⟨e, h1, rfl⟩ := List.mem_map.1 he
  exact .inl ⟨d0, e, hd, h1, (hf e).symm⟩
/-- New blocks get a role. -/
def markL (ρ : Nat → Nat) (bs : List Nat) (q : Nat) (k : Nat) : Nat := if k ∈ bs then q else ρ k
theorem RU.markL (h : RU rs w w1 ρ ρ') {bs : List Nat} {q : Nat} (hb : ∀ b, b ∈ bs → w.heap.size ≤ b ∧ b < w1.heap.size) : RU rs w w1 ρ (markL ρ' bs q) :=
  ⟨h.os, h.tape, h.output, h.size, h.block, fun k hk => by
    unfold Proofs.Ytlhobbfncjjeaaa.markL
    rw [if_neg (fun hh => by have := (hb k hh).1; omega)]
    exact h.role k hk, fun k hk => by
    unfold Proofs.Ytlhobbfncjjeaaa.markL
    rw [if_neg (fun hh => by have := (hb k hh).2; omega)]
    exact h.far k hk⟩
/-- The blocks in which a slice's elements lie. -/
def bks {α : Type} (a : Option Addr) (L : List α) : List Nat := match L, a with
  | [], _ => []
  | _ :: _, none => []
  | _ :: _, some x => [x.block]
theorem bks_lt {α : Type} {k : Nat} {f : α → List Value} {a : Option Addr} {c : Nat} {L : List α} {base : Nat} (h : At w k f a c L) (hf : Fresh base a) : ∀ b, b ∈ bks a L → base ≤ b ∧ b < w.heap.size := by
  intro b hb
  cases L with
  | nil => simp [bks] at hb
  | cons x L =>
    cases a with
    | none => simp [bks] at hb
    | some y =>
      simp [bks] at hb
      subst hb
      obtain ⟨b', o', e, h1, _⟩ := h.some (by simp)
      injection e with e
      refine ⟨hf _ rfl, ?_⟩
      rw [e]
      exact h1
theorem bks_fr {α : Type} {a : Option Addr} {L : List α} {bs : List Nat} (h : ∀ b, b ∈ bks a L → b ∈ bs) : FR (markL ρ bs 6) a L := by
  intro hn x hx
  cases L with
  | nil => exact absurd rfl hn
  | cons y L =>
    subst hx
    unfold markL
    rw [if_pos (h _ (by simp [bks]))]
/-- Entries of a list of nodes. -/
def NEnt (w : World) (ρ : Nat → Nat) (L : List AEnt) (F : List (Hd × BN)) : Prop := ∀ x, x ∈ F → ∃ e, e ∈ L ∧ (e.slot : Int) = x.1.1 ∧ e.gen = x.1.2 ∧ NodeE w ρ e.xs x.2
theorem NEnt.ru {L : List AEnt} {F : List (Hd × BN)} (h : NEnt w ρ L F) (hu : RU rs w w1 ρ ρ') (h6 : 6 ∉ rs) : NEnt w1 ρ' L F := fun x hx => by
  obtain ⟨e, e1, e2, e3, e4⟩ := h x hx
  exact ⟨e, e1, e2, e3, e4.ru hu h6⟩
theorem slot_uniq {L : List AEnt} (hn : (L.map AEnt.slot).Nodup) {e x : AEnt} (he : e ∈ L) (hx : x ∈ L) (hs : e.slot = x.slot) : e = x := by
  rcases List.mem_iff_getElem?.1 he with ⟨j, hj⟩
  rcases List.mem_iff_getElem?.1 hx with ⟨k, hk⟩
  have h1 : (L.map AEnt.slot)[j]? = some x.slot := by rw [List.getElem?_map, hj]; simp [hs]
  have h2 : (L.map AEnt.slot)[k]? = some x.slot := by rw [List.getElem?_map, hk]; rfl
  have := (List.getElem?_inj (List.getElem?_eq_some_iff.1 h1).1 hn).1 (h1.trans h2.symm)
  subst this
  rw [hj] at hk
  injection hk
/-- A node is written. -/
theorem NEnt.store {L : List AEnt} {F F' : List (Hd × BN)} {e : AEnt} {hh : Hd} {n : BN} {xs : List Value} (h : NEnt w ρ L F) (hn : (L.map AEnt.slot).Nodup) (he : e ∈ L) (h1 : (e.slot : Int) = hh.1) (h2 : e.gen = hh.2) (hxs : NodeE w ρ xs n)
    (hF : ∀ x, x ∈ F' → x = (hh, n) ∨ (x ∈ F ∧ x.1 ≠ hh)) : NEnt w ρ (L.map fun y => if y.slot = e.slot then { y with xs := xs } else y) F' := by
  intro x hx
  rcases hF x hx with rfl | ⟨hx, hne⟩
  · exact ⟨{ e with xs := xs }, List.mem_map.2 ⟨e, he, by simp⟩, h1, h2, hxs⟩
  · obtain ⟨y, y1, y2, y3, y4⟩ := h x hx
    have hs : y.slot ≠ e.slot := fun hs => by
      have := slot_uniq hn y1 he hs
      subst this
      exact hne (Prod.ext (by rw [← y2, h1]) (by rw [← y3, h2]))
    exact ⟨y, List.mem_map.2 ⟨y, y1, by simp [hs]⟩, y2, y3, y4⟩
/-- A node is put in. -/
theorem NEnt.snoc {L : List AEnt} {F F' : List (Hd × BN)} {e : AEnt} {n : BN} (h : NEnt w ρ L F) (hxs : NodeE w ρ e.xs n) (hF : ∀ x, x ∈ F' → x = (((e.slot : Int), e.gen), n) ∨ x ∈ F) : NEnt w ρ (L ++ [e]) F' := by
  intro x hx
  rcases hF x hx with rfl | hx
  · exact ⟨e, by simp, rfl, rfl, hxs⟩
  · obtain ⟨y, y1, y2⟩ := h x hx
    exact ⟨y, by simp [y1], y2⟩
/-- What a node function handed back is written where a node stands. -/
theorem BW.store (hB : BW w0 w ρ P gens free D) (hd : D[i]? = some d) (tc : d.tc = 130) {e : AEnt} (he : e ∈ d.A.L) (n2 : BN) (qka2 qva2 qha2 : Option Addr) (qkc2 qvc2 qhc2 : Nat) (hb : Below w.heap.size w w1) (hn : NodeAt w1 n2 qka2 qva2 qha2 qkc2 qvc2 qhc2) (hf : FreshN w.heap.size qka2 qva2 qha2) (hu : Upd [e.blk] w1 w2) (hc : w2.heap[e.blk]? = some (.cells (.int .u64 e.gen :: [.bool n2.leaf, .slice qka2 n2.keys.length qkc2, .slice qva2 n2.vals.length qvc2, .slice qha2 n2.kids.length qhc2, .string n2.high, .bool n2.bnd, .int .i64 n2.next.1, .int .u64 n2.next.2]).toArray 130)) :
    ∃ ρ', BW w0 w2 ρ' P gens free (D.set i { d with A := { d.A with L := d.A.L.map fun y => if y.slot = e.slot then { y with xs := [.bool n2.leaf, .slice qka2 n2.keys.length qkc2, .slice qva2 n2.vals.length qvc2, .slice qha2 n2.kids.length qhc2, .string n2.high, .bool n2.bnd, .int .i64 n2.next.1, .int .u64 n2.next.2] } else y } }) ∧ RU [10 + 3 * i] w w2 ρ ρ' ∧ NodeE w2 ρ' [.bool n2.leaf, .slice qka2 n2.keys.length qkc2, .slice qva2 n2.vals.length qvc2, .slice qha2 n2.kids.length qhc2, .string n2.high, .bool n2.bnd, .int .i64 n2.next.1, .int .u64 n2.next.2] n2 := by
  obtain ⟨bs, hbs⟩ : ∃ bs, bs = bks qka2 n2.keys ++ (bks qva2 n2.vals ++ bks qha2 n2.kids) := ⟨_, rfl⟩
  have hlt : ∀ b, b ∈ bs → w.heap.size ≤ b ∧ b < w1.heap.size := by
    intro b hb
    rw [hbs] at hb
    rcases List.mem_append.1 hb with hb | hb
    · exact bks_lt hn.1 hf.1 b hb
    · rcases List.mem_append.1 hb with hb | hb
      · exact bks_lt hn.2.1 hf.2.1 b hb
      · exact bks_lt hn.2.2 hf.2.2 b hb
  have hU1 : RU [] w w1 ρ (markL ρ bs 6) := (RU.below hB.ro hb).markL hlt
  have hB2 : BW w0 w1 (markL ρ bs 6) P gens free D := ⟨hB.ro.step hU1 (by simp), hB.ars.ru hU1 (by simp)⟩
  have hE : NodeE w1 (markL ρ bs 6) [.bool n2.leaf, .slice qka2 n2.keys.length qkc2, .slice qva2 n2.vals.length qvc2, .slice qha2 n2.kids.length qhc2, .string n2.high, .bool n2.bnd, .int .i64 n2.next.1, .int .u64 n2.next.2] n2 := ⟨qka2, qva2, qha2, qkc2, qvc2, qhc2, rfl, hn, bks_fr (fun b hb => by rw [hbs]; simp [hb]), bks_fr (fun b hb => by rw [hbs]; simp [hb]), bks_fr (fun b hb => by rw [hbs]; simp [hb])⟩
  obtain ⟨q1, q2⟩ := hB2.ars.write hB2.ro hd he hu (xs := [.bool n2.leaf, .slice qka2 n2.keys.length qkc2, .slice qva2 n2.vals.length qvc2, .slice qha2 n2.kids.length qhc2, .string n2.high, .bool n2.bnd, .int .i64 n2.next.1, .int .u64 n2.next.2]) (by rw [tc]; exact hc)
  exact ⟨markL ρ bs 6, ⟨hB2.ro.step q2 (by simp; omega), q1⟩, (hU1.mono (by simp)).trans q2, hE.ru q2 (by simp; omega)⟩
/-- A node is put into the arena: there is room. -/
theorem BW.alloc (hB : BW w0 w ρ P gens free D) (hd : D[i]? = some d) (ta : d.ta = 125) (tc : d.tc = 130) (n2 : BN) (qka2 qva2 qha2 : Option Addr) (qkc2 qvc2 qhc2 : Nat) (hn : NodeAt w n2 qka2 qva2 qha2 qkc2 qvc2 qhc2) (hf : FR ρ qka2 n2.keys ∧ FR ρ qva2 n2.vals ∧ FR ρ qha2 n2.kids) (hfr : true ∈ free) :
    Calls Try.prog 39 #[.pointer (some ⟨d.A.a, 0, none⟩), .agg #[.bool n2.leaf, .slice qka2 n2.keys.length qkc2, .slice qva2 n2.vals.length qvc2, .slice qha2 n2.kids.length qhc2, .string n2.high, .bool n2.bnd, .int .i64 n2.next.1, .int .u64 n2.next.2]] w fun x w' =>
      x = .returned (.tuple #[.agg #[.int .i64 (free.idxOf true), .int .u64 (gens.getD (free.idxOf true) 0)], .int .i64 0]) ∧ Upd [P.1, P.2.2, d.A.m] w w' ∧ ∃ b ρ', BW w0 w' ρ' P gens (free.set (free.idxOf true) false) (D.set i { d with A := { d.A with L := d.A.L ++ [⟨free.idxOf true, gens.getD (free.idxOf true) 0, b, [.bool n2.leaf, .slice qka2 n2.keys.length qkc2, .slice qva2 n2.vals.length qvc2, .slice qha2 n2.kids.length qhc2, .string n2.high, .bool n2.bnd, .int .i64 n2.next.1, .int .u64 n2.next.2], d.A.c⟩], c := d.A.c + 1 } }) ∧
        RU [1, 2, 3, 12 + 3 * i] w w' ρ ρ' ∧ NodeE w' ρ' [.bool n2.leaf, .slice qka2 n2.keys.length qkc2, .slice qva2 n2.vals.length qvc2, .slice qha2 n2.kids.length qhc2, .string n2.high, .bool n2.bnd, .int .i64 n2.next.1, .int .u64 n2.next.2] n2 ∧ w.heap.size ≤ b := by
  obtain ⟨p, g, f⟩ := P
  obtain ⟨n1, n3, n4, n5, n6, n7⟩ := hB.ars.neq hd
  have hpR := hB.ars.pR hd
  have hA := hB.ars.gR hd
  rw [ta, tc] at hA
  have hp := hB.ars.pool.1
  have hl : ∀ q, q ∈ [p, g, f, d.A.m] → q < w.heap.size := by
    intro q hq
    simp only [List.mem_cons, List.not_mem_nil, or_false] at hq
    rcases hq with rfl | rfl | rfl | rfl
    · exact heap_lt hp.2.2.2.2.2.1
    · exact heap_lt hp.2.2.2.2.2.2.1
    · exact heap_lt hp.2.2.2.2.2.2.2
    · exact heap_lt hA.2.2.1
  refine (ANode.gAlloc_some d.A p g f [p, g, f, d.A.m] gens free n2.leaf qka2 n2.keys.length qkc2 qva2 n2.vals.length qvc2 qha2 n2.kids.length qhc2 n2.high n2.bnd n2.next.1 n2.next.2 w hA hp hfr n1 n3 n5 n6 n7 (by simp) hl (fun e he => idx_ne' ((hB.ars.ar i d hd).th e he).2 hfr)).mono ?_
  rintro x w' ⟨hx, hu, hp', b, hb, hA'⟩
  refine ⟨hx, hu, b, ?_⟩
  obtain ⟨q1, q2⟩ := hB.ars.alloc hB.ro hd hfr hu hp' hb (xs := [.bool n2.leaf, .slice qka2 n2.keys.length qkc2, .slice qva2 n2.vals.length qvc2, .slice qha2 n2.kids.length qhc2, .string n2.high, .bool n2.bnd, .int .i64 n2.next.1, .int .u64 n2.next.2]) (by rw [ta, tc]; exact hA')
  refine ⟨mark ρ b (10 + 3 * i), ⟨hB.ro.step q2 (by simp; omega), q1⟩, q2, NodeE.ru ⟨qka2, qva2, qha2, qkc2, qvc2, qhc2, rfl, hn, hf⟩ q2 (by simp; omega), hb⟩
end
end Go.Proofs.Ytlhobbfncjjeaaa
namespace Go.Proofs.Ytlhobbfncjjeaaa
open Go.RowKit
section
variable {w0 w w1 w2 : World} {ρ : Nat → Nat} {P : Nat × Nat × Nat} {gens : List Int} {free : List Bool} {D : List ArD} {rs : List Nat} {rt i t : Nat} {d : ArD} {Ls : List Lev} {r : Hd} {size : Nat}
theorem lev_set {α : Type} {Ls : List (List α)} {j : Nat} {S S' : List α} (h : Ls[j]? = some S) : ∃ X Y, Ls.flatten = X ++ S ++ Y ∧ (Ls.set j S').flatten = X ++ S' ++ Y := by
  obtain ⟨hj, e⟩ := List.getElem?_eq_some_iff.1 h
  have h1 : Ls = Ls.take j ++ S :: Ls.drop (j + 1) := by rw [← e]; simp
  refine ⟨(Ls.take j).flatten, (Ls.drop (j + 1)).flatten, ?_, ?_⟩
  · conv => lhs; rw [h1]
    simp
  · conv => lhs; rw [h1]
    rw [List.set_append_right _ _ (by simp; omega)]
    simp [Nat.min_eq_left (Nat.le_of_lt hj)]
/-- One node of a list without doubles is another one. -/
theorem turn_list {X Y A B : List (Hd × BN)} {hh : Hd} {n n' : BN} (hn : ((X ++ (A ++ (hh, n) :: B) ++ Y).map (·.1)).Nodup) :
    ((X ++ (A ++ (hh, n') :: B) ++ Y).map (·.1)) = (X ++ (A ++ (hh, n) :: B) ++ Y).map (·.1) ∧ ∀ x, x ∈ X ++ (A ++ (hh, n') :: B) ++ Y → x = (hh, n') ∨ (x ∈ X ++ (A ++ (hh, n) :: B) ++ Y ∧ x.1 ≠ hh) := by
  refine ⟨by simp, fun x hx => ?_⟩
  have key : ∀ x : Hd × BN, x ∈ X ∨ x ∈ A ∨ x ∈ B ∨ x ∈ Y → x.1 ≠ hh := by
    intro x hx e
    have hc : ((X ++ (A ++ (hh, n) :: B) ++ Y).map (·.1)) = (X.map (·.1) ++ A.map (·.1)) ++ hh :: (B.map (·.1) ++ Y.map (·.1)) := by simp
    rw [hc] at hn
    have h1 := (List.nodup_append.1 hn).2.2
    have h2 := (List.nodup_cons.1 (List.nodup_append.1 hn).2.1).1
    rcases hx with hx | hx | hx | hx
    · exact h1 x.1 (by simp; exact .inl ⟨_, hx⟩) hh (by simp) e
    · exact h1 x.1 (by simp; exact .inr ⟨_, hx⟩) hh (by simp) e
    · exact h2 (by rw [← e]; simp; exact .inl ⟨_, hx⟩)
    · exact h2 (by rw [← e]; simp; exact .inr ⟨_, hx⟩)
  simp only [List.mem_append, List.mem_cons] at hx
  rcases hx with (hx | hx | hx | hx) | hx
  · exact .inr ⟨by simp [hx], key x (.inl hx)⟩
  · exact .inr ⟨by simp [hx], key x (.inr (.inl hx))⟩
  · exact .inl hx
  · exact .inr ⟨by simp [hx], key x (.inr (.inr (.inl hx)))⟩
  · exact .inr ⟨by simp [hx], key x (.inr (.inr (.inr hx)))⟩
/-- A leaf of the tree is written: what a node function handed back. -/
theorem Tr.turn (hB : BW w0 w ρ P gens free D) (h : Tr w ρ P D rt i t d Ls r size) {A B : Lev} {hh : Hd} {n : BN} {e : AEnt} (n2 : BN) (qka2 qva2 qha2 : Option Addr) (qkc2 qvc2 qhc2 : Nat) (hS : Ls[0]? = some (A ++ (hh, n) :: B)) (he : e ∈ d.A.L) (e1 : (e.slot : Int) = hh.1) (e2 : e.gen = hh.2)
    (hb : Below w.heap.size w w1) (hn : NodeAt w1 n2 qka2 qva2 qha2 qkc2 qvc2 qhc2) (hf : FreshN w.heap.size qka2 qva2 qha2) (hu : Upd [e.blk] w1 w2) (hc : w2.heap[e.blk]? = some (.cells (.int .u64 e.gen :: [.bool n2.leaf, .slice qka2 n2.keys.length qkc2, .slice qva2 n2.vals.length qvc2, .slice qha2 n2.kids.length qhc2, .string n2.high, .bool n2.bnd, .int .i64 n2.next.1, .int .u64 n2.next.2]).toArray 130))
    (tow : Tower (Ls.set 0 (A ++ (hh, n2) :: B))) (thk : Thick (Ls.set 0 (A ++ (hh, n2) :: B))) :
    ∃ ρ' D' d', BW w0 w2 ρ' P gens free D' ∧ Tr w2 ρ' P D' rt i t d' (Ls.set 0 (A ++ (hh, n2) :: B)) r size ∧ RU [10 + 3 * i] w w2 ρ ρ' ∧ SameD i D D' := by
  obtain ⟨ρ', hB', hU, hE⟩ := hB.store h.hd h.tc he n2 qka2 qva2 qha2 qkc2 qvc2 qhc2 hb hn hf hu hc
  obtain ⟨X, Y, x1, x2⟩ := lev_set (S' := A ++ (hh, n2) :: B) hS
  have hnod := h.nod
  unfold handles at hnod
  rw [x1] at hnod
  obtain ⟨t1, t2⟩ := turn_list (n' := n2) hnod
  have hrt := h.rt4
  have h6 : 6 ∉ [10 + 3 * i] := by simp; omega
  have hr : rt ∉ [10 + 3 * i] := by simp; omega
  have hent : NEnt w2 ρ' d.A.L Ls.flatten := NEnt.ru (h := h.ent) hU h6
  have hns := hB.ag h.hd h.ta h.tc
  have hnsl : (d.A.L.map AEnt.slot).Nodup := hns.2.2.2.1
  refine ⟨ρ', _, _, hB', ⟨get_set_self h.hd, h.ta, h.tc, hrt, by rw [hU.role _ (heap_lt h.blk)]; exact h.rol, hU.heap h.blk (by rw [h.rol]; exact hr), ?_, ?_, ?_, ?_, tow, thk⟩, hU, SameD.set _ _ _ (same_map h.hd (fun e => by split <;> rfl))⟩
  · obtain ⟨n0, htop⟩ := h.top
    simp only [List.length_set]
    by_cases h0 : Ls.length - 1 = 0
    · rw [h0] at htop ⊢
      rw [hS] at htop
      injection htop with htop
      have : A = [] ∧ B = [] ∧ hh = r := by
        cases A with
        | nil => simp at htop; exact ⟨rfl, htop.2, htop.1.1⟩
        | cons y A => simp at htop
      exact ⟨n2, by rw [get_set_self hS, this.1, this.2.1, this.2.2]; rfl⟩
    · exact ⟨n0, by rw [List.getElem?_set, if_neg (fun hh => h0 hh.symm)]; exact htop⟩
  · refine NEnt.store hent hnsl he e1 e2 hE (fun x hx => ?_)
    rw [x2] at hx
    rw [x1]
    exact t2 x hx
  · unfold handles
    rw [x2, t1]
    exact hnod
  · have hcn := h.cnt
    unfold handles at hcn ⊢
    rw [x2, t1, ← x1, ← hcn]
    simp
/-- The count of keys is written. -/
theorem Tr.setSize (hB : BW w0 w ρ P gens free D) (h : Tr w ρ P D rt i t d Ls r size) (size' : Nat) :
    BW w0 (w.setCell ⟨t, 4, none⟩ (.int .i64 size')) ρ P gens free D ∧ Tr (w.setCell ⟨t, 4, none⟩ (.int .i64 size')) ρ P D rt i t d Ls r size' ∧ RU [rt] w (w.setCell ⟨t, 4, none⟩ (.int .i64 size')) ρ ρ := by
  have hrt := h.rt4
  have hU : RU [rt] w (w.setCell ⟨t, 4, none⟩ (.int .i64 size')) ρ ρ := RU.upd hB.ro ((Upd.refl [t] w).setCell (by simp) _) (fun k hk _ => by simp at hk; rw [hk, h.rol]; simp)
  refine ⟨⟨hB.ro.step hU (by simp; omega), hB.ars.ru hU (by simp; omega)⟩, ⟨h.hd, h.ta, h.tc, h.rt4, h.rol, ?_, h.top, ?_, h.nod, h.cnt, h.tow, h.thk⟩, hU⟩
  · exact heap_set_same h.blk 4 _
  · exact NEnt.ru (h := h.ent) hU (by simp; omega)
theorem Tr.neq (hB : BW w0 w ρ P gens free D) (h : Tr w ρ P D rt i t d Ls r size) {e : AEnt} (he : e ∈ d.A.L) : t ≠ e.blk := fun hh => by
  have h1 := ((hB.ars.ar i d h.hd).th e he).1
  rw [← hh, h.rol] at h1
  have := h.rt4
  omega
end
theorem node_stored1 {w : World} {q : Nat} {g : Value} {tc : TypeId} {qf qbd : Bool} {qka qva qha : Option Addr} {qkl qkc qvl qvc qhl qhc : Nat} {qhi : Str} {qns qng : Int} {n2 : BN} {qka2 qva2 qha2 : Option Addr} {qkc2 qvc2 qhc2 : Nat} (h : w.heap[q]? = some (.cells (g :: [.bool qf, .slice qka qkl qkc, .slice qva qvl qvc, .slice qha qhl qhc, .string qhi, .bool qbd, .int .i64 qns, .int .u64 qng]).toArray tc)) : ((World.setCell (World.setCell (World.setCell (World.setCell (World.setCell (World.setCell (World.setCell (World.setCell w ⟨q, 1, none⟩ (.bool n2.leaf)) ⟨q, 2, none⟩ (.slice qka2 n2.keys.length qkc2)) ⟨q, 3, none⟩ (.slice qva2 n2.vals.length qvc2)) ⟨q, 4, none⟩ (.slice qha2 n2.kids.length qhc2)) ⟨q, 5, none⟩ (.string n2.high)) ⟨q, 6, none⟩ (.bool n2.bnd)) ⟨q, 7, none⟩ (.int .i64 n2.next.1)) ⟨q, 8, none⟩ (.int .u64 n2.next.2))).heap[q]? = some (.cells (g :: [.bool n2.leaf, .slice qka2 n2.keys.length qkc2, .slice qva2 n2.vals.length qvc2, .slice qha2 n2.kids.length qhc2, .string n2.high, .bool n2.bnd, .int .i64 n2.next.1, .int .u64 n2.next.2]).toArray tc) ∧ Upd [q] w (World.setCell (World.setCell (World.setCell (World.setCell (World.setCell (World.setCell (World.setCell (World.setCell w ⟨q, 1, none⟩ (.bool n2.leaf)) ⟨q, 2, none⟩ (.slice qka2 n2.keys.length qkc2)) ⟨q, 3, none⟩ (.slice qva2 n2.vals.length qvc2)) ⟨q, 4, none⟩ (.slice qha2 n2.kids.length qhc2)) ⟨q, 5, none⟩ (.string n2.high)) ⟨q, 6, none⟩ (.bool n2.bnd)) ⟨q, 7, none⟩ (.int .i64 n2.next.1)) ⟨q, 8, none⟩ (.int .u64 n2.next.2)) := by
  refine ⟨?_, ?_⟩
  · have h0 : (World.setCell w ⟨q, 1, none⟩ (.bool n2.leaf)).heap[q]? = some (.cells (g :: [.bool n2.leaf, .slice qka qkl qkc, .slice qva qvl qvc, .slice qha qhl qhc, .string qhi, .bool qbd, .int .i64 qns, .int .u64 qng]).toArray tc) := heap_set_same h 1 _
    have h1 : (World.setCell (World.setCell w ⟨q, 1, none⟩ (.bool n2.leaf)) ⟨q, 2, none⟩ (.slice qka2 n2.keys.length qkc2)).heap[q]? = some (.cells (g :: [.bool n2.leaf, .slice qka2 n2.keys.length qkc2, .slice qva qvl qvc, .slice qha qhl qhc, .string qhi, .bool qbd, .int .i64 qns, .int .u64 qng]).toArray tc) := heap_set_same h0 2 _
    have h2 : (World.setCell (World.setCell (World.setCell w ⟨q, 1, none⟩ (.bool n2.leaf)) ⟨q, 2, none⟩ (.slice qka2 n2.keys.length qkc2)) ⟨q, 3, none⟩ (.slice qva2 n2.vals.length qvc2)).heap[q]? = some (.cells (g :: [.bool n2.leaf, .slice qka2 n2.keys.length qkc2, .slice qva2 n2.vals.length qvc2, .slice qha qhl qhc, .string qhi, .bool qbd, .int .i64 qns, .int .u64 qng]).toArray tc) := heap_set_same h1 3 _
    have h3 : (World.setCell (World.setCell (World.setCell (World.setCell w ⟨q, 1, none⟩ (.bool n2.leaf)) ⟨q, 2, none⟩ (.slice qka2 n2.keys.length qkc2)) ⟨q, 3, none⟩ (.slice qva2 n2.vals.length qvc2)) ⟨q, 4, none⟩ (.slice qha2 n2.kids.length qhc2)).heap[q]? = some (.cells (g :: [.bool n2.leaf, .slice qka2 n2.keys.length qkc2, .slice qva2 n2.vals.length qvc2, .slice qha2 n2.kids.length qhc2, .string qhi, .bool qbd, .int .i64 qns, .int .u64 qng]).toArray tc) := heap_set_same h2 4 _
    have h4 : (World.setCell (World.setCell (World.setCell (World.setCell (World.setCell w ⟨q, 1, none⟩ (.bool n2.leaf)) ⟨q, 2, none⟩ (.slice qka2 n2.keys.length qkc2)) ⟨q, 3, none⟩ (.slice qva2 n2.vals.length qvc2)) ⟨q, 4, none⟩ (.slice qha2 n2.kids.length qhc2)) ⟨q, 5, none⟩ (.string n2.high)).heap[q]? = some (.cells (g :: [.bool n2.leaf, .slice qka2 n2.keys.length qkc2, .slice qva2 n2.vals.length qvc2, .slice qha2 n2.kids.length qhc2, .string n2.high, .bool qbd, .int .i64 qns, .int .u64 qng]).toArray tc) := heap_set_same h3 5 _
    have h5 : (World.setCell (World.setCell (World.setCell (World.setCell (World.setCell (World.setCell w ⟨q, 1, none⟩ (.bool n2.leaf)) ⟨q, 2, none⟩ (.slice qka2 n2.keys.length qkc2)) ⟨q, 3, none⟩ (.slice qva2 n2.vals.length qvc2)) ⟨q, 4, none⟩ (.slice qha2 n2.kids.length qhc2)) ⟨q, 5, none⟩ (.string n2.high)) ⟨q, 6, none⟩ (.bool n2.bnd)).heap[q]? = some (.cells (g :: [.bool n2.leaf, .slice qka2 n2.keys.length qkc2, .slice qva2 n2.vals.length qvc2, .slice qha2 n2.kids.length qhc2, .string n2.high, .bool n2.bnd, .int .i64 qns, .int .u64 qng]).toArray tc) := heap_set_same h4 6 _
    have h6 : (World.setCell (World.setCell (World.setCell (World.setCell (World.setCell (World.setCell (World.setCell w ⟨q, 1, none⟩ (.bool n2.leaf)) ⟨q, 2, none⟩ (.slice qka2 n2.keys.length qkc2)) ⟨q, 3, none⟩ (.slice qva2 n2.vals.length qvc2)) ⟨q, 4, none⟩ (.slice qha2 n2.kids.length qhc2)) ⟨q, 5, none⟩ (.string n2.high)) ⟨q, 6, none⟩ (.bool n2.bnd)) ⟨q, 7, none⟩ (.int .i64 n2.next.1)).heap[q]? = some (.cells (g :: [.bool n2.leaf, .slice qka2 n2.keys.length qkc2, .slice qva2 n2.vals.length qvc2, .slice qha2 n2.kids.length qhc2, .string n2.high, .bool n2.bnd, .int .i64 n2.next.1, .int .u64 qng]).toArray tc) := heap_set_same h5 7 _
    exact heap_set_same h6 8 _
  · iterate 8 refine Upd.setCell ?_ (by simp) _
    exact Upd.refl _ _
end Go.Proofs.Ytlhobbfncjjeaaa
namespace Go.Proofs.Ytlhobbfncjjeaaa
open Go.RowKit
/-- A tree's nodes, in any order. -/
structure TF (w : World) (ρ : Nat → Nat) (P : Nat × Nat × Nat) (D : List ArD) (rt i t : Nat) (d : ArD) (F : List (Hd × BN)) (r : Hd) (size : Nat) : Prop where
  hd : D[i]? = some d
  ta : d.ta = 125
  tc : d.tc = 130
  rt4 : 4 ≤ rt ∧ rt ≤ 5
  rol : ρ t = rt
  blk : w.heap[t]? = some (.cells #[.pointer (some ⟨P.1, 0, none⟩), .pointer (some ⟨d.A.a, 0, none⟩), .int .i64 r.1, .int .u64 r.2, .int .i64 size, .bool false] 72)
  ent : NEnt w ρ d.A.L F
  nod : (F.map (·.1)).Nodup
  cnt : d.A.L.length = F.length
section
variable {w0 w w1 w2 : World} {ρ : Nat → Nat} {P : Nat × Nat × Nat} {gens : List Int} {free : List Bool} {D : List ArD} {rs : List Nat} {rt i t : Nat} {d : ArD} {Ls : List Lev} {F F' : List (Hd × BN)} {r : Hd} {size : Nat}
theorem Tr.form (h : Tr w ρ P D rt i t d Ls r size) : TF w ρ P D rt i t d Ls.flatten r size :=
  ⟨h.hd, h.ta, h.tc, h.rt4, h.rol, h.blk, h.ent, h.nod, by rw [h.cnt]; unfold handles; rw [List.length_map]⟩
theorem TF.tr (h : TF w ρ P D rt i t d F r size) (hp : F.Perm Ls.flatten) (top : ∃ n, Ls[Ls.length - 1]? = some [(r, n)]) (tow : Tower Ls) (thk : Thick Ls) : Tr w ρ P D rt i t d Ls r size :=
  ⟨h.hd, h.ta, h.tc, h.rt4, h.rol, h.blk, top, fun x hx => h.ent x (hp.mem_iff.2 hx), (hp.map _).nodup_iff.1 h.nod, by unfold handles; rw [h.cnt, List.length_map, hp.length_eq], tow, thk⟩
theorem TF.perm (h : TF w ρ P D rt i t d F r size) (hp : F.Perm F') : TF w ρ P D rt i t d F' r size :=
  ⟨h.hd, h.ta, h.tc, h.rt4, h.rol, h.blk, fun x hx => h.ent x (hp.mem_iff.2 hx), (hp.map _).nodup_iff.1 h.nod, by rw [h.cnt, hp.length_eq]⟩
theorem TF.ru {ρ' : Nat → Nat} (h : TF w ρ P D rt i t d F r size) (hu : RU rs w w1 ρ ρ') (h6 : 6 ∉ rs) (hr : rt ∉ rs) : TF w1 ρ' P D rt i t d F r size :=
  ⟨h.hd, h.ta, h.tc, h.rt4, by rw [hu.role _ (heap_lt h.blk)]; exact h.rol, hu.heap h.blk (by rw [h.rol]; exact hr), h.ent.ru hu h6, h.nod, h.cnt⟩
/-- New blocks are nobody's to write (role 6). -/
theorem BW.marks (hB : BW w0 w ρ P gens free D) (hb : Below w.heap.size w w1) (bs : List Nat) (hlt : ∀ b, b ∈ bs → w.heap.size ≤ b ∧ b < w1.heap.size) :
    BW w0 w1 (markL ρ bs 6) P gens free D ∧ RU [] w w1 ρ (markL ρ bs 6) := by
  have hU1 : RU [] w w1 ρ (markL ρ bs 6) := (RU.below hB.ro hb).markL hlt
  exact ⟨⟨hB.ro.step hU1 (by simp), hB.ars.ru hU1 (by simp)⟩, hU1⟩
def bkN (n : BN) (qka qva qha : Option Addr) : List Nat := bks qka n.keys ++ (bks qva n.vals ++ bks qha n.kids)
theorem bkN_lt {base : Nat} (n : BN) (qka qva qha : Option Addr) (qkc qvc qhc : Nat) (h : NodeAt w n qka qva qha qkc qvc qhc) (hf : FreshN base qka qva qha) : ∀ b, b ∈ bkN n qka qva qha → base ≤ b ∧ b < w.heap.size := by
  intro b hb
  rcases List.mem_append.1 hb with hb | hb
  · exact bks_lt h.1 hf.1 b hb
  · rcases List.mem_append.1 hb with hb | hb
    · exact bks_lt h.2.1 hf.2.1 b hb
    · exact bks_lt h.2.2 hf.2.2 b hb
theorem bkN_E (n : BN) (qka qva qha : Option Addr) (qkc qvc qhc : Nat) {bs : List Nat} (h : NodeAt w n qka qva qha qkc qvc qhc) (hs : ∀ b, b ∈ bkN n qka qva qha → b ∈ bs) : NodeE w (markL ρ bs 6) [.bool n.leaf, .slice qka n.keys.length qkc, .slice qva n.vals.length qvc, .slice qha n.kids.length qhc, .string n.high, .bool n.bnd, .int .i64 n.next.1, .int .u64 n.next.2] n :=
  ⟨qka, qva, qha, qkc, qvc, qhc, rfl, h, bks_fr (fun b hb => hs b (by unfold bkN; simp [hb])), bks_fr (fun b hb => hs b (by unfold bkN; simp [hb])), bks_fr (fun b hb => hs b (by unfold bkN; simp [hb]))⟩
/-- Where a node stands. -/
theorem TF.entry (h : TF w ρ P D rt i t d F r size) (hB : BW w0 w ρ P gens free D) {x : Hd × BN} (hx : x ∈ F) :
    ∃ e, e ∈ d.A.L ∧ (e.slot : Int) = x.1.1 ∧ e.gen = x.1.2 ∧ NodeE w ρ e.xs x.2 ∧ w.heap[e.blk]? = some (.cells (.int .u64 e.gen :: e.xs).toArray 130) ∧
      ∀ W, Below w.heap.size w W → Calls Try.prog 52 #[.pointer (some ⟨d.A.a, 0, none⟩), .agg #[.int .i64 x.1.1, .int .u64 x.1.2]] W fun z w' => z = .returned (.tuple #[.pointer (some ⟨e.blk, 1, none⟩), .bool true]) ∧ Below W.heap.size W w' := by
  obtain ⟨e, e0, e1, e2, e3⟩ := h.ent x hx
  exact ⟨e, e0, e1, e2, e3, hB.cellsOf h.hd h.tc e0, fun W hW => (hB.below hW).get h.hd h.ta h.tc e0 e1 e2⟩
theorem TF.at (h : TF w ρ P D rt i t d F r size) (hB : BW w0 w ρ P gens free D) {x : Hd × BN} (hx : x ∈ F) {e : AEnt} (he : e ∈ d.A.L) (e1 : (e.slot : Int) = x.1.1) :
    NodeE w ρ e.xs x.2 ∧ w.heap[e.blk]? = some (.cells (.int .u64 e.gen :: e.xs).toArray 130) := by
  obtain ⟨e', e0, e2, _, e3⟩ := h.ent x hx
  have hee : e' = e := slot_uniq (hB.ag h.hd h.ta h.tc).2.2.2.1 e0 he (by omega)
  subst hee
  exact ⟨e3, hB.cellsOf h.hd h.tc e0⟩
/-- A node is written. -/
theorem TF.write (hB : BW w0 w ρ P gens free D) (h : TF w ρ P D rt i t d F r size) {A B : List (Hd × BN)} {hh : Hd} {n : BN} {e : AEnt} (n2 : BN) (qka2 qva2 qha2 : Option Addr) (qkc2 qvc2 qhc2 : Nat) (hS : F = A ++ (hh, n) :: B) (he : e ∈ d.A.L) (e1 : (e.slot : Int) = hh.1) (e2 : e.gen = hh.2)
    (hE : NodeE w ρ [.bool n2.leaf, .slice qka2 n2.keys.length qkc2, .slice qva2 n2.vals.length qvc2, .slice qha2 n2.kids.length qhc2, .string n2.high, .bool n2.bnd, .int .i64 n2.next.1, .int .u64 n2.next.2] n2) (hu : Upd [e.blk] w w2) (hc : w2.heap[e.blk]? = some (.cells (.int .u64 e.gen :: [.bool n2.leaf, .slice qka2 n2.keys.length qkc2, .slice qva2 n2.vals.length qvc2, .slice qha2 n2.kids.length qhc2, .string n2.high, .bool n2.bnd, .int .i64 n2.next.1, .int .u64 n2.next.2]).toArray 130)) :
    ∃ D' d', BW w0 w2 ρ P gens free D' ∧ TF w2 ρ P D' rt i t d' (A ++ (hh, n2) :: B) r size ∧ RU [10 + 3 * i] w w2 ρ ρ ∧ d'.A.a = d.A.a ∧ SameD i D D' := by
  obtain ⟨q1, hU⟩ := hB.ars.write hB.ro h.hd he hu (xs := [.bool n2.leaf, .slice qka2 n2.keys.length qkc2, .slice qva2 n2.vals.length qvc2, .slice qha2 n2.kids.length qhc2, .string n2.high, .bool n2.bnd, .int .i64 n2.next.1, .int .u64 n2.next.2]) (by rw [h.tc]; exact hc)
  have hB' := hB.ro.step hU (by simp; omega)
  have hnod := h.nod
  rw [hS] at hnod
  obtain ⟨t1, t2⟩ := turn_list (X := []) (Y := []) (A := A) (B := B) (n' := n2) (by simpa using hnod)
  simp only [List.nil_append, List.append_nil] at t1 t2
  have hrt := h.rt4
  have h6 : 6 ∉ [10 + 3 * i] := by simp; omega
  have hr : rt ∉ [10 + 3 * i] := by simp; omega
  have hent : NEnt w2 ρ d.A.L F := NEnt.ru (h := h.ent) hU h6
  have hnsl : (d.A.L.map AEnt.slot).Nodup := (hB.ag h.hd h.ta h.tc).2.2.2.1
  refine ⟨_, _, ⟨hB', q1⟩, ⟨get_set_self h.hd, h.ta, h.tc, hrt, h.rol, hU.heap h.blk (by rw [h.rol]; exact hr), ?_, ?_, ?_⟩, hU, rfl, SameD.set _ _ _ (same_map h.hd (fun e => by split <;> rfl))⟩
  · refine NEnt.store hent hnsl he e1 e2 (hE.ru hU h6) (fun x hx => ?_)
    rw [hS]
    exact t2 x hx
  · rw [t1]
    exact hnod
  · have hcn := h.cnt
    rw [hS] at hcn
    simp at hcn ⊢
    exact hcn
/-- A node is put in. -/
theorem TF.alloc (hB : BW w0 w ρ P gens free D) (h : TF w ρ P D rt i t d F r size) (n2 : BN) (qka2 qva2 qha2 : Option Addr) (qkc2 qvc2 qhc2 : Nat) (hn : NodeAt w n2 qka2 qva2 qha2 qkc2 qvc2 qhc2) (hf : FR ρ qka2 n2.keys ∧ FR ρ qva2 n2.vals ∧ FR ρ qha2 n2.kids) (hfr : true ∈ free) :
    Calls Try.prog 39 #[.pointer (some ⟨d.A.a, 0, none⟩), .agg #[.bool n2.leaf, .slice qka2 n2.keys.length qkc2, .slice qva2 n2.vals.length qvc2, .slice qha2 n2.kids.length qhc2, .string n2.high, .bool n2.bnd, .int .i64 n2.next.1, .int .u64 n2.next.2]] w fun x w' =>
      x = .returned (.tuple #[.agg #[.int .i64 (free.idxOf true), .int .u64 (gens.getD (free.idxOf true) 0)], .int .i64 0]) ∧ ∃ ρ' D' d', BW w0 w' ρ' P gens (free.set (free.idxOf true) false) D' ∧
        TF w' ρ' P D' rt i t d' (F ++ [((((free.idxOf true : Nat) : Int), gens.getD (free.idxOf true) 0), n2)]) r size ∧ RU [1, 2, 3, 12 + 3 * i] w w' ρ ρ' ∧ d'.A.a = d.A.a ∧ w.heap.size ≤ w'.heap.size ∧ (∀ e, e ∈ d.A.L → e ∈ d'.A.L) ∧ Upd [P.1, P.2.2, d.A.m] w w' ∧ SameD i D D' := by
  refine (hB.alloc h.hd h.ta h.tc n2 qka2 qva2 qha2 qkc2 qvc2 qhc2 hn hf hfr).mono ?_
  rintro x w' ⟨hx, hu, b, ρ', hB', hU, hE, hb⟩
  have hrt := h.rt4
  have h6 : 6 ∉ [1, 2, 3, 12 + 3 * i] := by simp; omega
  have hr : rt ∉ [1, 2, 3, 12 + 3 * i] := by simp; omega
  refine ⟨hx, ρ', _, _, hB', ⟨get_set_self h.hd, h.ta, h.tc, hrt, by rw [hU.role _ (heap_lt h.blk)]; exact h.rol, hU.heap h.blk (by rw [h.rol]; exact hr), ?_, ?_, ?_⟩, hU, rfl, hU.size, (fun e he => by simp [he]), hu, SameD.set _ _ _ (fun e' he' => ?_)⟩
  rotate_left 3
  · simp only [List.mem_append, List.mem_singleton] at he'
    rcases he' with he' | rfl
    · exact .inl ⟨_, e', h.hd, he', rfl⟩
    · exact .inr fun j dj e _ hd he => idx_ne' ((hB.ars.ar j dj hd).th e he).2 hfr
  · refine NEnt.snoc (e := ⟨free.idxOf true, gens.getD (free.idxOf true) 0, b, [.bool n2.leaf, .slice qka2 n2.keys.length qkc2, .slice qva2 n2.vals.length qvc2, .slice qha2 n2.kids.length qhc2, .string n2.high, .bool n2.bnd, .int .i64 n2.next.1, .int .u64 n2.next.2], d.A.c⟩) (NEnt.ru (h := h.ent) hU h6) hE (fun x hx => ?_)
    simp only [List.mem_append, List.mem_singleton] at hx
    exact hx.symm
  · rw [List.map_append, List.nodup_append]
    refine ⟨h.nod, by simp, fun a ha b hb hab => ?_⟩
    simp at hb
    obtain ⟨x, hx, rfl⟩ := List.mem_map.1 ha
    obtain ⟨e, he, s1, _⟩ := h.ent x hx
    have := idx_ne' ((hB.ars.ar i d h.hd).th e he).2 hfr
    rw [hab, hb] at s1
    simp at s1
    exact this (by exact_mod_cast s1)
  · simp [h.cnt]
/-- The root is another one. -/
theorem TF.setRoot (hB : BW w0 w ρ P gens free D) (h : TF w ρ P D rt i t d F r size) (r' : Hd) :
    BW w0 ((w.setCell ⟨t, 2, none⟩ (.int .i64 r'.1)).setCell ⟨t, 3, none⟩ (.int .u64 r'.2)) ρ P gens free D ∧ TF ((w.setCell ⟨t, 2, none⟩ (.int .i64 r'.1)).setCell ⟨t, 3, none⟩ (.int .u64 r'.2)) ρ P D rt i t d F r' size ∧ RU [rt] w ((w.setCell ⟨t, 2, none⟩ (.int .i64 r'.1)).setCell ⟨t, 3, none⟩ (.int .u64 r'.2)) ρ ρ := by
  have hrt := h.rt4
  have hU : RU [rt] w ((w.setCell ⟨t, 2, none⟩ (.int .i64 r'.1)).setCell ⟨t, 3, none⟩ (.int .u64 r'.2)) ρ ρ := RU.upd hB.ro (((Upd.refl [t] w).setCell (by simp) _).setCell (by simp) _) (fun k hk _ => by simp at hk; rw [hk, h.rol]; simp)
  refine ⟨⟨hB.ro.step hU (by simp; omega), hB.ars.ru hU (by simp; omega)⟩, ⟨h.hd, h.ta, h.tc, h.rt4, h.rol, ?_, NEnt.ru (h := h.ent) hU (by simp; omega), h.nod, h.cnt⟩, hU⟩
  exact heap_set_same (heap_set_same h.blk 2 _) 3 _
end
end Go.Proofs.Ytlhobbfncjjeaaa
namespace Go.Proofs.Ytlhobbfncjjeaaa
open Go.RowKit
section
variable {w0 w w1 w2 : World} {ρ : Nat → Nat} {P : Nat × Nat × Nat} {gens : List Int} {free : List Bool} {D : List ArD} {rs : List Nat} {rt i t : Nat} {d : ArD} {Ls : List Lev} {F F' : List (Hd × BN)} {r : Hd} {size : Nat}
theorem TF.cells (h : TF w ρ P D rt i t d F r size) :
    w.cell? ⟨t, 0, none⟩ = some (.pointer (some ⟨P.1, 0, none⟩)) ∧ w.cell? ⟨t, 1, none⟩ = some (.pointer (some ⟨d.A.a, 0, none⟩)) ∧ w.cell? ⟨t, 2, none⟩ = some (.int .i64 r.1) ∧ w.cell? ⟨t, 3, none⟩ = some (.int .u64 r.2) ∧ w.cell? ⟨t, 4, none⟩ = some (.int .i64 size) ∧ w.cell? ⟨t, 5, none⟩ = some (.bool false) ∧ t < w.heap.size := by
  refine ⟨?_, ?_, ?_, ?_, ?_, ?_, heap_lt h.blk⟩ <;> rw [cell_of_heap h.blk] <;> rfl
/-- The zero node. -/
def zeroBN : BN := ⟨false, [], [], [], s0, false, (0, 0)⟩
theorem zero_at (w : World) : NodeAt w zeroBN none none none 0 0 0 := ⟨⟨Nat.zero_le _, Nat.zero_le _, .inl ⟨rfl, rfl⟩⟩, ⟨Nat.zero_le _, Nat.zero_le _, .inl ⟨rfl, rfl⟩⟩, ⟨Nat.zero_le _, Nat.zero_le _, .inl ⟨rfl, rfl⟩⟩⟩
theorem zero_box {W : World} {b : Nat} (h : W.heap[b]? = some (.cells #[.bool false, .slice none 0 0, .slice none 0 0, .slice none 0 0, .string ⟨#[]⟩, .bool false, .int .i64 0, .int .u64 0] 89)) : (W.cell? ⟨b, 0, none⟩ = some (.bool false) ∧ W.cell? ⟨b, 1, none⟩ = some (.slice none 0 0) ∧ W.cell? ⟨b, 2, none⟩ = some (.slice none 0 0) ∧ W.cell? ⟨b, 3, none⟩ = some (.slice none 0 0) ∧ W.cell? ⟨b, 4, none⟩ = some (.string s0) ∧ W.cell? ⟨b, 5, none⟩ = some (.bool false) ∧ W.cell? ⟨b, 6, none⟩ = some (.int .i64 0) ∧ W.cell? ⟨b, 7, none⟩ = some (.int .u64 0)) ∧ W.frozen? ⟨b, 0, none⟩ = false ∧ W.frozen? ⟨b, 1, none⟩ = false ∧ W.frozen? ⟨b, 2, none⟩ = false ∧ W.frozen? ⟨b, 3, none⟩ = false ∧ W.frozen? ⟨b, 4, none⟩ = false ∧ W.frozen? ⟨b, 5, none⟩ = false ∧ W.frozen? ⟨b, 6, none⟩ = false ∧ W.frozen? ⟨b, 7, none⟩ = false := by
  refine ⟨?_, frozen_of_heap h _, frozen_of_heap h _, frozen_of_heap h _, frozen_of_heap h _, frozen_of_heap h _, frozen_of_heap h _, frozen_of_heap h _, frozen_of_heap h _⟩
  refine ⟨?_, ?_, ?_, ?_, ?_, ?_, ?_, ?_⟩ <;> rw [cell_of_heap h] <;> rfl
theorem two_boxes {W : World} {b c : Nat} (n2 : BN) (qka2 qva2 qha2 : Option Addr) (qkc2 qvc2 qhc2 : Nat) (n3 : BN) (qka3 qva3 qha3 : Option Addr) (qkc3 qvc3 qhc3 : Nat) (hb : W.heap[b]? = some (.cells #[.bool false, .slice none 0 0, .slice none 0 0, .slice none 0 0, .string ⟨#[]⟩, .bool false, .int .i64 0, .int .u64 0] 89)) (hc : W.heap[c]? = some (.cells #[.bool false, .slice none 0 0, .slice none 0 0, .slice none 0 0, .string ⟨#[]⟩, .bool false, .int .i64 0, .int .u64 0] 89)) (hne : b ≠ c) :
    (World.setCell (World.setCell (World.setCell (World.setCell (World.setCell (World.setCell (World.setCell (World.setCell (World.setCell (World.setCell (World.setCell (World.setCell (World.setCell (World.setCell (World.setCell (World.setCell W ⟨b, 0, none⟩ (.bool n2.leaf)) ⟨b, 1, none⟩ (.slice qka2 n2.keys.length qkc2)) ⟨b, 2, none⟩ (.slice qva2 n2.vals.length qvc2)) ⟨b, 3, none⟩ (.slice qha2 n2.kids.length qhc2)) ⟨b, 4, none⟩ (.string n2.high)) ⟨b, 5, none⟩ (.bool n2.bnd)) ⟨b, 6, none⟩ (.int .i64 n2.next.1)) ⟨b, 7, none⟩ (.int .u64 n2.next.2)) ⟨c, 0, none⟩ (.bool n3.leaf)) ⟨c, 1, none⟩ (.slice qka3 n3.keys.length qkc3)) ⟨c, 2, none⟩ (.slice qva3 n3.vals.length qvc3)) ⟨c, 3, none⟩ (.slice qha3 n3.kids.length qhc3)) ⟨c, 4, none⟩ (.string n3.high)) ⟨c, 5, none⟩ (.bool n3.bnd)) ⟨c, 6, none⟩ (.int .i64 n3.next.1)) ⟨c, 7, none⟩ (.int .u64 n3.next.2)).heap[b]? = some (.cells #[.bool n2.leaf, .slice qka2 n2.keys.length qkc2, .slice qva2 n2.vals.length qvc2, .slice qha2 n2.kids.length qhc2, .string n2.high, .bool n2.bnd, .int .i64 n2.next.1, .int .u64 n2.next.2] 89) ∧ (World.setCell (World.setCell (World.setCell (World.setCell (World.setCell (World.setCell (World.setCell (World.setCell (World.setCell (World.setCell (World.setCell (World.setCell (World.setCell (World.setCell (World.setCell (World.setCell W ⟨b, 0, none⟩ (.bool n2.leaf)) ⟨b, 1, none⟩ (.slice qka2 n2.keys.length qkc2)) ⟨b, 2, none⟩ (.slice qva2 n2.vals.length qvc2)) ⟨b, 3, none⟩ (.slice qha2 n2.kids.length qhc2)) ⟨b, 4, none⟩ (.string n2.high)) ⟨b, 5, none⟩ (.bool n2.bnd)) ⟨b, 6, none⟩ (.int .i64 n2.next.1)) ⟨b, 7, none⟩ (.int .u64 n2.next.2)) ⟨c, 0, none⟩ (.bool n3.leaf)) ⟨c, 1, none⟩ (.slice qka3 n3.keys.length qkc3)) ⟨c, 2, none⟩ (.slice qva3 n3.vals.length qvc3)) ⟨c, 3, none⟩ (.slice qha3 n3.kids.length qhc3)) ⟨c, 4, none⟩ (.string n3.high)) ⟨c, 5, none⟩ (.bool n3.bnd)) ⟨c, 6, none⟩ (.int .i64 n3.next.1)) ⟨c, 7, none⟩ (.int .u64 n3.next.2)).heap[c]? = some (.cells #[.bool n3.leaf, .slice qka3 n3.keys.length qkc3, .slice qva3 n3.vals.length qvc3, .slice qha3 n3.kids.length qhc3, .string n3.high, .bool n3.bnd, .int .i64 n3.next.1, .int .u64 n3.next.2] 89) ∧ Upd [b, c] W (World.setCell (World.setCell (World.setCell (World.setCell (World.setCell (World.setCell (World.setCell (World.setCell (World.setCell (World.setCell (World.setCell (World.setCell (World.setCell (World.setCell (World.setCell (World.setCell W ⟨b, 0, none⟩ (.bool n2.leaf)) ⟨b, 1, none⟩ (.slice qka2 n2.keys.length qkc2)) ⟨b, 2, none⟩ (.slice qva2 n2.vals.length qvc2)) ⟨b, 3, none⟩ (.slice qha2 n2.kids.length qhc2)) ⟨b, 4, none⟩ (.string n2.high)) ⟨b, 5, none⟩ (.bool n2.bnd)) ⟨b, 6, none⟩ (.int .i64 n2.next.1)) ⟨b, 7, none⟩ (.int .u64 n2.next.2)) ⟨c, 0, none⟩ (.bool n3.leaf)) ⟨c, 1, none⟩ (.slice qka3 n3.keys.length qkc3)) ⟨c, 2, none⟩ (.slice qva3 n3.vals.length qvc3)) ⟨c, 3, none⟩ (.slice qha3 n3.kids.length qhc3)) ⟨c, 4, none⟩ (.string n3.high)) ⟨c, 5, none⟩ (.bool n3.bnd)) ⟨c, 6, none⟩ (.int .i64 n3.next.1)) ⟨c, 7, none⟩ (.int .u64 n3.next.2)) := by
  obtain ⟨q1, u1⟩ := node_stored (n2 := n2) (qka2 := qka2) (qva2 := qva2) (qha2 := qha2) (qkc2 := qkc2) (qvc2 := qvc2) (qhc2 := qhc2) hb
  have q2 := u1.heap hc (by simp; omega)
  generalize (World.setCell (World.setCell (World.setCell (World.setCell (World.setCell (World.setCell (World.setCell (World.setCell W ⟨b, 0, none⟩ (.bool n2.leaf)) ⟨b, 1, none⟩ (.slice qka2 n2.keys.length qkc2)) ⟨b, 2, none⟩ (.slice qva2 n2.vals.length qvc2)) ⟨b, 3, none⟩ (.slice qha2 n2.kids.length qhc2)) ⟨b, 4, none⟩ (.string n2.high)) ⟨b, 5, none⟩ (.bool n2.bnd)) ⟨b, 6, none⟩ (.int .i64 n2.next.1)) ⟨b, 7, none⟩ (.int .u64 n2.next.2)) = V at *
  obtain ⟨q3, u3⟩ := node_stored (n2 := n3) (qka2 := qka3) (qva2 := qva3) (qha2 := qha3) (qkc2 := qkc3) (qvc2 := qvc3) (qhc2 := qhc3) q2
  exact ⟨u3.heap q1 (by simp; omega), q3, (u1.mono (by simp)).trans (u3.mono (by simp))⟩
theorem At.updB {α : Type} {w w' : World} {k : Nat} {f : α → List Value} {a : Option Addr} {c : Nat} {L : List α} {S : List Nat} (h : At w k f a c L) (hu : Upd S w w') (hS : ∀ b, b ∈ bks a L → b ∉ S) : At w' k f a c L := by
  obtain ⟨h1, h2, h3⟩ := h
  rcases h3 with ⟨rfl, h3⟩ | ⟨b, o, rfl, h4, h5⟩
  · exact ⟨h1, h2, .inl ⟨rfl, h3⟩⟩
  · refine ⟨h1, h2, .inr ⟨b, o, rfl, fun hn => Nat.lt_of_lt_of_le (h4 hn) hu.size, fun i x hx j y hy => ?_⟩⟩
    have hn : L ≠ [] := by intro e; rw [e] at hx; simp at hx
    obtain ⟨z, L', rfl⟩ := List.exists_cons_of_ne_nil hn
    have hr := hS b (by simp [bks])
    rw [World.cell?_of_block (hu.block b (h4 hn) hr)]
    exact h5 i x hx j y hy
theorem NodeAt.updB {w w' : World} {S : List Nat} (n : BN) (qka qva qha : Option Addr) (qkc qvc qhc : Nat) (h : NodeAt w n qka qva qha qkc qvc qhc) (hu : Upd S w w') (hS : ∀ b, b ∈ bkN n qka qva qha → b ∉ S) : NodeAt w' n qka qva qha qkc qvc qhc :=
  ⟨h.1.updB hu (fun b hb => hS b (by unfold bkN; simp [hb])), h.2.1.updB hu (fun b hb => hS b (by unfold bkN; simp [hb])), h.2.2.updB hu (fun b hb => hS b (by unfold bkN; simp [hb]))⟩
theorem off_before {w' : World} {base b : Nat} (n2 : BN) (qka2 qva2 qha2 : Option Addr) (qkc2 qvc2 qhc2 : Nat) (n3 : BN) (qka3 qva3 qha3 : Option Addr) (qkc3 qvc3 qhc3 : Nat) (h2 : NodeAt w' n2 qka2 qva2 qha2 qkc2 qvc2 qhc2) (h3 : NodeAt w' n3 qka3 qva3 qha3 qkc3 qvc3 qhc3) (f2 : FreshN base qka2 qva2 qha2) (f3 : FreshN base qka3 qva3 qha3) (hb : b < base) : (∀ x, x ∈ bkN n2 qka2 qva2 qha2 → x ≠ b) ∧ ∀ x, x ∈ bkN n3 qka3 qva3 qha3 → x ≠ b :=
  ⟨fun x hx => by have := (bkN_lt _ _ _ _ _ _ _ h2 f2 x hx).1; omega, fun x hx => by have := (bkN_lt _ _ _ _ _ _ _ h3 f3 x hx).1; omega⟩
theorem off_behind {w' : World} {base : Nat} (n2 : BN) (qka2 qva2 qha2 : Option Addr) (qkc2 qvc2 qhc2 : Nat) (n3 : BN) (qka3 qva3 qha3 : Option Addr) (qkc3 qvc3 qhc3 : Nat) (h2 : NodeAt w' n2 qka2 qva2 qha2 qkc2 qvc2 qhc2) (h3 : NodeAt w' n3 qka3 qva3 qha3 qkc3 qvc3 qhc3) (f2 : FreshN base qka2 qva2 qha2) (f3 : FreshN base qka3 qva3 qha3) : (∀ x, x ∈ bkN n2 qka2 qva2 qha2 → x ≠ w'.heap.size) ∧ ∀ x, x ∈ bkN n3 qka3 qva3 qha3 → x ≠ w'.heap.size :=
  ⟨fun x hx => by have := (bkN_lt _ _ _ _ _ _ _ h2 f2 x hx).2; omega, fun x hx => by have := (bkN_lt _ _ _ _ _ _ _ h3 f3 x hx).2; omega⟩
/-- A node of blocks of the call's own is put in. -/
theorem TF.allocB (hB : BW w0 w ρ P gens free D) (h : TF w ρ P D rt i t d F r size) (n2 : BN) (qka2 qva2 qha2 : Option Addr) (qkc2 qvc2 qhc2 : Nat) {W : World} (hb : Below w.heap.size w W) (hn : NodeAt W n2 qka2 qva2 qha2 qkc2 qvc2 qhc2) (hf : FreshN w.heap.size qka2 qva2 qha2) (hfr : true ∈ free) :
    Calls Try.prog 39 #[.pointer (some ⟨d.A.a, 0, none⟩), .agg #[.bool n2.leaf, .slice qka2 n2.keys.length qkc2, .slice qva2 n2.vals.length qvc2, .slice qha2 n2.kids.length qhc2, .string n2.high, .bool n2.bnd, .int .i64 n2.next.1, .int .u64 n2.next.2]] W fun x w' =>
      x = .returned (.tuple #[.agg #[.int .i64 (free.idxOf true), .int .u64 (gens.getD (free.idxOf true) 0)], .int .i64 0]) ∧ ∃ ρ' D' d', BW w0 w' ρ' P gens (free.set (free.idxOf true) false) D' ∧
        TF w' ρ' P D' rt i t d' (F ++ [((((free.idxOf true : Nat) : Int), gens.getD (free.idxOf true) 0), n2)]) r size ∧ RU [1, 2, 3, 12 + 3 * i] w w' ρ ρ' ∧ d'.A.a = d.A.a ∧ Upd [P.1, P.2.2, d.A.m] W w' ∧ SameD i D D' := by
  obtain ⟨hBm, hUm⟩ := hB.marks hb (bkN n2 qka2 qva2 qha2) (bkN_lt n2 qka2 qva2 qha2 qkc2 qvc2 qhc2 hn hf)
  have hTm := h.ru hUm (by simp) (by simp)
  obtain ⟨qka, qva, qha, qkc, qvc, qhc, _, _, g1, g2, g3⟩ : NodeE W (markL ρ (bkN n2 qka2 qva2 qha2) 6) [.bool n2.leaf, .slice qka2 n2.keys.length qkc2, .slice qva2 n2.vals.length qvc2, .slice qha2 n2.kids.length qhc2, .string n2.high, .bool n2.bnd, .int .i64 n2.next.1, .int .u64 n2.next.2] n2 := bkN_E n2 qka2 qva2 qha2 qkc2 qvc2 qhc2 hn (fun b hb => hb)
  refine (TF.alloc hBm hTm n2 qka2 qva2 qha2 qkc2 qvc2 qhc2 hn ⟨bks_fr (fun b hb => by unfold bkN; simp [hb]), bks_fr (fun b hb => by unfold bkN; simp [hb]), bks_fr (fun b hb => by unfold bkN; simp [hb])⟩ hfr).mono ?_
  rintro x w' ⟨hx, ρ', D', d', k1, k2, k3, k4, _, _, k5, k6⟩
  exact ⟨hx, ρ', D', d', k1, k2, (hUm.mono (by simp)).trans k3, k4, k5, k6⟩
/-- A handle's box and the tree's own block are none of those that Alloc writes. -/
theorem TF.box (hB : BW w0 w ρ P gens free D) (h : TF w ρ P D rt i t d F r size) {b : Nat} {x y : Int} {T : TypeId} (hb : w.heap[b]? = some (.cells #[.int .i64 x, .int .u64 y] T)) : b ∉ [P.1, P.2.2, d.A.m] := by
  obtain ⟨p, g, f⟩ := P
  have hp := hB.ars.pool.1
  have hm := (hB.ars.ar i d h.hd).g.2.2.1
  intro hh
  simp only [List.mem_cons, List.not_mem_nil, or_false] at hh
  rcases hh with rfl | rfl | rfl
  · rw [hp.2.2.2.2.2.1] at hb
    injection hb with hb
    injection hb with hb _
    exact absurd (congrArg Array.size hb) (by simp)
  · rw [hp.2.2.2.2.2.2.2] at hb
    injection hb with hb
    injection hb with hb _
    cases free with
    | nil => exact absurd (congrArg Array.size hb) (by simp)
    | cons z free =>
      have := congrArg (fun a : Array Value => a[0]?) hb
      simp at this
  · rw [hm] at hb
    injection hb with hb
    cases hb
theorem TF.own (hB : BW w0 w ρ P gens free D) (h : TF w ρ P D rt i t d F r size) : t ∉ [P.1, P.2.2, d.A.m] := by
  obtain ⟨p, g, f⟩ := P
  obtain ⟨_, r1, r2, r3⟩ := hB.ars.pool
  have hm := (hB.ars.ar i d h.hd).rm
  have h4 := h.rt4
  have hr := h.rol
  intro hh
  simp only [List.mem_cons, List.not_mem_nil, or_false] at hh
  rcases hh with hh | hh | hh <;> rw [hh] at hr <;> omega
theorem root_at {W : World} {bk bh : Nat} {T T' : TypeId} {sep : Str} {h nx : Hd} (h1 : W.heap[bk]? = some (.cells #[.string sep] T)) (h2 : W.heap[bh]? = some (.cells #[.int .i64 h.1, .int .u64 h.2, .int .i64 nx.1, .int .u64 nx.2] T')) :
    NodeAt W (newRoot sep h nx) (some ⟨bk, 0, none⟩) none (some ⟨bh, 0, none⟩) 1 0 2 := by
  refine ⟨⟨by simp [newRoot], by omega, .inr ⟨bk, 0, rfl, fun _ => heap_lt h1, fun i x hx j y hy => ?_⟩⟩, ⟨by simp [newRoot], by omega, .inl ⟨rfl, rfl⟩⟩, ⟨by simp [newRoot], by omega, .inr ⟨bh, 0, rfl, fun _ => heap_lt h2, fun i x hx j y hy => ?_⟩⟩⟩
  · obtain ⟨hi, hx⟩ := List.getElem?_eq_some_iff.1 hx
    simp [newRoot] at hi
    subst hi
    obtain ⟨hj, hy⟩ := List.getElem?_eq_some_iff.1 hy
    simp [scell] at hj
    subst hj
    rw [← hy, ← hx, cell_of_heap h1]
    rfl
  · obtain ⟨hi, hx⟩ := List.getElem?_eq_some_iff.1 hx
    simp [newRoot] at hi
    obtain ⟨hj, hy⟩ := List.getElem?_eq_some_iff.1 hy
    simp [hcel] at hj
    rw [← hy, ← hx, cell_of_heap h2]
    have : i = 0 ∨ i = 1 := by omega
    have : j = 0 ∨ j = 1 := by omega
    rcases ‹i = 0 ∨ i = 1› with rfl | rfl <;> rcases ‹j = 0 ∨ j = 1› with rfl | rfl <;> rfl
theorem root_fresh {base bk bh : Nat} (h1 : base ≤ bk) (h2 : base ≤ bh) : FreshN base (some ⟨bk, 0, none⟩) none (some ⟨bh, 0, none⟩) :=
  ⟨(fun x hx => by injection hx with hx; rw [← hx]; exact h1), (fun x hx => by cases hx), (fun x hx => by injection hx with hx; rw [← hx]; exact h2)⟩
/-- One slot less. -/
theorem count_one (hn : true ∈ free) : (free.set (free.idxOf true) false).count true + 1 = free.count true := by
  have h1 := List.idxOf_lt_length_of_mem hn
  have h2 := count_set_false free (free.idxOf true) h1 (by rw [List.getElem?_eq_getElem h1, List.getElem_idxOf])
  have h3 : 0 < free.count true := List.count_pos_iff.2 hn
  omega
/-- What split leaves. -/
def SpEnd (w0 w : World) (ρ : Nat → Nat) (P : Nat × Nat × Nat) (gens : List Int) (free : List Bool) (D : List ArD) (rt i t : Nat) (a : Nat) (hh : Hd) (m : BN) (R R2 : List (Hd × BN)) (hp : Hd) (n : BN) (r : Hd) (size N : Nat) (w' : World) : Prop :=
  ∃ ρ' D' d' nx free', BW w0 w' ρ' P gens free' D' ∧ RU [1, 2, 3, 12 + 3 * i, 10 + 3 * i, rt] w w' ρ ρ' ∧ d'.A.a = a ∧ SameD i D D' ∧
    ((N = 0 ∧ ∃ top, free'.count true + 2 = free.count true ∧ TF w' ρ' P D' rt i t d' ((hh, m.left nx) :: (nx, m.rightHalf) :: (top, newRoot m.sep hh nx) :: R) top size) ∨
     (0 < N ∧ free'.count true + 1 = free.count true ∧ TF w' ρ' P D' rt i t d' ((hp, n.add m.sep nx) :: (hh, m.left nx) :: (nx, m.rightHalf) :: R2) r size))
end
end Go.Proofs.Ytlhobbfncjjeaaa
