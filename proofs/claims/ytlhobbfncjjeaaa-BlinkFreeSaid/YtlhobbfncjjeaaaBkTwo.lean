/- Two B-link trees in one pool: what is done to the second one leaves the first one. -/
import Derived.Test.YtlhobbfncjjeaaaBkDrop
namespace Go.Proofs.Ytlhobbfncjjeaaa
open Go.RowKit
section
variable {w0 w w' : World} {ρ ρ' : Nat → Nat} {P : Nat × Nat × Nat} {gens : List Int} {free : List Bool} {D D' : List ArD} {rs : List Nat} {rt i t : Nat} {d : ArD} {Ls : List Lev} {r : Hd} {size : Nat}
theorem Tr.inD (h : Tr w ρ P D rt i t d Ls r size) (hd : D'[i]? = some d) : Tr w ρ P D' rt i t d Ls r size :=
  ⟨hd, h.ta, h.tc, h.rt4, h.rol, h.blk, h.top, h.ent, h.nod, h.cnt, h.tow, h.thk⟩
end
theorem at_ruT {α : Type} {k : Nat} {f : α → List Value} {a : Option Addr} {c : Nat} {L : List α} {w w' : World} {ρ ρ' : Nat → Nat} {rs : List Nat} (h : At w k f a c L) (hu : RU rs w w' ρ ρ') (hb : ∀ b, b ∈ bks a L → ρ b ∉ rs) : At w' k f a c L ∧ ∀ b, b ∈ bks a L → b < w.heap.size := by
  obtain ⟨h1, h2, h3⟩ := h
  rcases h3 with ⟨rfl, h3⟩ | ⟨b, o, rfl, h4, h5⟩
  · exact ⟨⟨h1, h2, .inl ⟨rfl, h3⟩⟩, fun b hb => by cases L <;> simp [bks] at hb⟩
  · refine ⟨⟨h1, h2, .inr ⟨b, o, rfl, fun hn => Nat.lt_of_lt_of_le (h4 hn) hu.size, fun i x hx j y hy => ?_⟩⟩, fun b' hb' => ?_⟩
    · have hn : L ≠ [] := by intro e; rw [e] at hx; simp at hx
      have hr : b ∈ bks (some ⟨b, o, none⟩) L := by
        cases L with
        | nil => exact absurd rfl hn
        | cons x L => simp [bks]
      rw [World.cell?_of_block (hu.block b (h4 hn) (hb b hr))]
      exact h5 i x hx j y hy
    · cases L with
      | nil => simp [bks] at hb'
      | cons x L =>
        simp [bks] at hb'
        subst hb'
        exact h4 (by simp)
theorem row_bksT {base : Nat} {e : TypeId} {w : World} {a : Option Addr} {c : Nat} {C : Cont} (h : Row base e 2 pcel w (.slice a C.length c) C) : ∀ b, b ∈ bks a C → base ≤ b := by
  intro b hb
  unfold bks at hb
  cases C with
  | nil => simp at hb
  | cons x C =>
    rcases h.cases with ⟨_, h1⟩ | ⟨g, cap, e, h2, _⟩
    · cases h1
    · injection e with e _ _
      subst e
      simp at hb
      subst hb
      exact h2
/-- A row of pairs that nobody writes. -/
def Kp (w : World) (ρ : Nat → Nat) (aa : Option Addr) (ac : Nat) (C : Cont) : Prop := At w 2 pcel aa ac C ∧ ∀ b, b ∈ bks aa C → ρ b = 0
theorem Kp.ru {w w' : World} {ρ ρ' : Nat → Nat} {rs : List Nat} {aa : Option Addr} {ac : Nat} {C : Cont} (h : Kp w ρ aa ac C) (hu : RU rs w w' ρ ρ') (h0 : 0 ∉ rs) : Kp w' ρ' aa ac C := by
  obtain ⟨h1, h2⟩ := at_ruT h.1 hu (fun b hb => by rw [h.2 b hb]; exact h0)
  exact ⟨h1, fun b hb => by rw [hu.role b (h2 b hb)]; exact h.2 b hb⟩
/-- Nothing of arena i stands where something of another one does. -/
def Sep (D : List ArD) (i : Nat) (d : ArD) : Prop := ∀ j dj e x, j ≠ i → D[j]? = some dj → e ∈ dj.A.L → x ∈ d.A.L → e.slot ≠ x.slot
theorem Sep.same {D D' : List ArD} {i : Nat} {d d' : ArD} (h : Sep D i d) (hd : D[i]? = some d) (hd' : D'[i]? = some d') (hs : SameD i D D') : Sep D' i d' := fun j dj e x hj hD he hx => by
  rw [hs.2.1 j hj] at hD
  rcases hs.2.2 d' x hd' hx with ⟨d0, e0, z1, z2, z3⟩ | z
  · rw [hd] at z1
    injection z1 with z1
    subst z1
    rw [← z3]
    exact h j dj e e0 hj hD he z2
  · exact z j dj e hj hD he
/-- Two trees of one pool: a with content Ca and na nodes; b with content Cb and at most lvb leaves. -/
def Two (w0 w : World) (p ta tb : Nat) (Ca : Cont) (na : Nat) (aa : Option Addr) (ac : Nat) (Cb : Cont) (lvb : Nat) : Prop :=
  ∃ ρ P gens free D rta ia da Lsa ra rtb ib db Lsb rb, (P.1 = p ∧ gens.length = 4096) ∧ BW w0 w ρ P gens free D ∧ (Tr w ρ P D rta ia ta da Lsa ra Ca.length ∧ Slim Lsa ∧ content Lsa = Ca ∧ nodes Lsa = na) ∧
    (Tr w ρ P D rtb ib tb db Lsb rb Cb.length ∧ Slim Lsb ∧ content Lsb = Cb ∧ leaves Lsb ≤ lvb) ∧ free.count true + na + nodes Lsb = 4096 ∧ ia ≠ ib ∧ rta ≠ rtb ∧ Sep D ib db ∧ Kp w ρ aa ac Ca
/-- b was dropped. -/
def OneG (w0 w : World) (p ta tb : Nat) (Ca : Cont) (na : Nat) (aa : Option Addr) (ac : Nat) : Prop :=
  ∃ ρ P gens free D rta ia da Lsa ra rtb ib db, (P.1 = p ∧ gens.length = 4096) ∧ BW w0 w ρ P gens free D ∧ (Tr w ρ P D rta ia ta da Lsa ra Ca.length ∧ Slim Lsa ∧ content Lsa = Ca ∧ nodes Lsa = na) ∧ Gone w ρ P D rtb ib tb db ∧ free.count true + na = 4096 ∧ Kp w ρ aa ac Ca
section
variable {w0 w w' : World} {p ta tb na lvb ac : Nat} {Ca Cb : Cont} {aa : Option Addr}
theorem pool_live {ρ : Nat → Nat} {P : Nat × Nat × Nat} {gens : List Int} {free : List Bool} {D : List ArD} (hB : BW w0 w ρ P gens free D) (h1 : P.1 = p ∧ gens.length = 4096) {n : Nat} (hc : free.count true + n = 4096) :
    Calls Try.prog 30 #[.pointer (some ⟨p, 0, none⟩)] w fun e w' => e = .returned (.int .i64 n) ∧ Below w.heap.size w w' := by
  obtain ⟨pa, g, f⟩ := P
  obtain ⟨hp, _, _, _⟩ := hB.ars.pool
  have hl := hp.1
  obtain ⟨h11, h12⟩ := h1
  simp only at h11
  subst h11
  refine (pLive_any _ g f gens free w hp).mono ?_
  rintro e w' ⟨he, hb⟩
  refine ⟨?_, hb⟩
  rw [he]
  congr 2
  omega
theorem Two.below (h : Two w0 w p ta tb Ca na aa ac Cb lvb) (hb : Below w.heap.size w w') : Two w0 w' p ta tb Ca na aa ac Cb lvb := by
  obtain ⟨ρ, P, gens, free, D, rta, ia, da, Lsa, ra, rtb, ib, db, Lsb, rb, h1, hB, ⟨a1, a2⟩, ⟨b1, b2⟩, h4⟩ := h
  exact ⟨ρ, P, gens, free, D, rta, ia, da, Lsa, ra, rtb, ib, db, Lsb, rb, h1, hB.below hb, ⟨a1.below hB hb, a2⟩, ⟨b1.below hB hb, b2⟩, h4.1, h4.2.1, h4.2.2.1, h4.2.2.2.1, h4.2.2.2.2.ru (RU.below (rs := []) hB.ro hb) (by simp)⟩
theorem Two.bel (h : Two w0 w p ta tb Ca na aa ac Cb lvb) : Below w0.heap.size w0 w := by
  obtain ⟨ρ, P, gens, free, D, rta, ia, da, Lsa, ra, rtb, ib, db, Lsb, rb, h1, hB, _⟩ := h
  exact hB.ro.bel
theorem Two.up (h : Two w0 w p ta tb Ca na aa ac Cb lvb) {l : Nat} (hl : lvb ≤ l) : Two w0 w p ta tb Ca na aa ac Cb l := by
  obtain ⟨ρ, P, gens, free, D, rta, ia, da, Lsa, ra, rtb, ib, db, Lsb, rb, h1, hB, ha, ⟨b1, b2, b3, b4⟩, h4⟩ := h
  exact ⟨ρ, P, gens, free, D, rta, ia, da, Lsa, ra, rtb, ib, db, Lsb, rb, h1, hB, ha, ⟨b1, b2, b3, Nat.le_trans b4 hl⟩, h4⟩
theorem Two.sorted (h : Two w0 w p ta tb Ca na aa ac Cb lvb) : CSort Cb := by
  obtain ⟨ρ, P, gens, free, D, rta, ia, da, Lsa, ra, rtb, ib, db, Lsb, rb, h1, hB, ha, ⟨b1, b2, b3, b4⟩, h4⟩ := h
  rw [← b3]; exact b1.tow.sorted
/-- A second tree. -/
theorem Two.new {lv : Nat} {fat : Bool} (h : TreeIs w0 w p ta Ca 4096 lv fat) (hl : lv ≤ 301) :
    ∃ na : Nat, (∀ W, Below w.heap.size w W → Calls Try.prog 30 #[.pointer (some ⟨p, 0, none⟩)] W fun e w' => e = .returned (.int .i64 na) ∧ Below W.heap.size W w') ∧ na ≤ 602 ∧
      ∀ W aa ac, Below w.heap.size w W → At W 2 pcel aa ac Ca → (∀ b, b ∈ bks aa Ca → w.heap.size ≤ b) → Calls Try.prog 11 #[.pointer (some ⟨p, 0, none⟩)] W fun e w' => ∃ tb, e = .returned (.tuple #[.pointer (some ⟨tb, 0, none⟩), .int .i64 0]) ∧ Two w0 w' p ta tb Ca na aa ac [] 1 := by
  obtain ⟨ρ, P, gens, free, D, rta, ia, da, Lsa, ra, h1, hB, h3, h4, h5, h6, h7, h8⟩ := h
  obtain ⟨s1, s2, s3⟩ := h3.tow.size h3.thk
  refine ⟨nodes Lsa, fun W hW => pool_live (hB.below hW) h1 h6, by omega, fun W aa ac hW hA hAb => ?_⟩
  have hfr : true ∈ free := List.count_pos_iff.1 (by omega)
  have hrt := h3.rt4
  have hN := bkNew_some (rt := 9 - rta) (hB.below hW) hfr (by omega)
  rw [h1.1] at hN
  refine hN.mono ?_
  rintro e w' ⟨tb, ρ', db, rb, he, hB', hT', hU', hsp⟩
  have hia := (List.getElem?_eq_some_iff.1 h3.hd).1
  refine ⟨tb, he, ρ', P, gens, _, D ++ [db], rta, ia, da, Lsa, ra, 9 - rta, D.length, db, _, rb, h1, hB', ⟨?_, h4, h5, rfl⟩, ⟨hT', slim0 rb, by simp [content, cont, BN.pairs, leaf0], Nat.le_refl 1⟩, ?_, by omega, by omega, fun j dj e x hj hD he hx => ?_, Kp.ru (rs := [1, 2, 3, 12 + 3 * D.length]) ⟨hA, fun b hb => hB.ro.far b (hAb b hb)⟩ hU' (by simp; omega)⟩
  · exact ((h3.below hB hW).ru hU' (by simp; omega) (by simp; omega)).inD (by rw [List.getElem?_append_left hia]; exact h3.hd)
  · have := count_one hfr
    have h2 : nodes [[(rb, leaf0)]] = 1 := rfl
    rw [h2]
    omega
  · rcases Nat.lt_or_ge j D.length with h9 | h9
    · rw [List.getElem?_append_left h9] at hD
      exact hsp j dj e x hj hD he hx
    · rw [List.getElem?_eq_none (by simp; omega)] at hD
      cases hD
theorem Two.put (h : Two w0 w p ta tb Ca na aa ac Cb lvb) (hna : na ≤ 602) (hlv : lvb ≤ 301) (hC : Cb.length ≤ 100000) (key value : Str) :
    Calls Try.prog 25 #[.pointer (some ⟨tb, 0, none⟩), .string key, .string value] w fun e w' => ∃ old had, e = .returned (.tuple #[.string old, .bool had, .int .i64 0]) ∧ Two w0 w' p ta tb Ca na aa ac (cput Cb key value) (lvb + 1) := by
  obtain ⟨ρ, P, gens, free, D, rta, ia, da, Lsa, ra, rtb, ib, db, Lsb, rb, h1, hB, ⟨a1, a2, a3, a4⟩, ⟨b1, b2, b3, b4⟩, hc, hi, hr, hsp, hkp⟩ := h
  have hn := b1.tow.room b1.thk (c := free.count true) (c0 := 4096 - na) (lv := lvb) (h := 9) (by omega) b4 (by omega) (by omega) key
  have hra := a1.rt4
  have hrb := b1.rt4
  refine (b1.put hB b2 (TreeIs.hll b1.tow b1.thk b4 (by omega)).1 (by omega) key value).mono ?_
  rintro e w' (⟨_, he, ρ', D', d', free', Ls', r', q1, q2, q3, q4, q5, q6, q7, q8, q9, q10, q11, _⟩ | ⟨_, hlt, _⟩)
  · rw [b3] at he q4 q5
    refine ⟨_, _, he, ρ', P, gens, free', D', rta, ia, da, Lsa, ra, rtb, ib, d', Ls', r', h1, q1, ⟨?_, a2, a3, a4⟩, ⟨?_, q6, q5, by omega⟩, by omega, hi, hr, hsp.same b1.hd q4.hd q9, hkp.ru q2 (by simp; omega)⟩
    · exact (a1.ru q2 (by simp; omega) (by simp; omega)).inD (by rw [q9.2.1 ia hi]; exact a1.hd)
    · have hs : CSort Cb := by rw [← b3]; exact b1.tow.sorted
      rw [cput_len hs]
      exact q4
  · omega
theorem Two.delete (h : Two w0 w p ta tb Ca na aa ac Cb lvb) (hlv : lvb ≤ 301) (hC : Cb.length ≤ 100000) (key : Str) :
    Calls Try.prog 26 #[.pointer (some ⟨tb, 0, none⟩), .string key] w fun e w' => ∃ old had, e = .returned (.tuple #[.string old, .bool had]) ∧ Two w0 w' p ta tb Ca na aa ac (cdel Cb key) lvb := by
  obtain ⟨ρ, P, gens, free, D, rta, ia, da, Lsa, ra, rtb, ib, db, Lsb, rb, h1, hB, ⟨a1, a2, a3, a4⟩, ⟨b1, b2, b3, b4⟩, hc, hi, hr, hsp, hkp⟩ := h
  have hra := a1.rt4
  have hrb := b1.rt4
  have hs : CSort Cb := by rw [← b3]; exact b1.tow.sorted
  obtain ⟨l1, l2⟩ := cdel_len hs key
  refine (b1.delete hB (slim_flat b2) (TreeIs.hll b1.tow b1.thk b4 (by omega)).1 (by omega) key (by rw [b3]; exact l2)).mono ?_
  rintro e w' ⟨he, ρ', D', d', Ls', q1, q2, q3, q4, q5, q6, q7, q8, q9, q10⟩
  rw [b3] at he q2 q3
  refine ⟨_, _, he, ρ', P, gens, free, D', rta, ia, da, Lsa, ra, rtb, ib, d', Ls', rb, h1, q1, ⟨?_, a2, a3, a4⟩, ⟨by rw [l1]; exact q2, q4 b2, q3, by omega⟩, by omega, hi, hr, hsp.same b1.hd q2.hd q7, hkp.ru q5 (by simp; omega)⟩
  exact (a1.ru q5 (by simp; omega) (by simp; omega)).inD (by rw [q7.2.1 ia hi]; exact a1.hd)
/-- How many nodes, and how many slots are taken. -/
theorem Two.counts (h : Two w0 w p ta tb Ca na aa ac Cb lvb) : ∃ nb : Nat, ∀ W, Below w.heap.size w W →
    (Calls Try.prog 29 #[.pointer (some ⟨ta, 0, none⟩)] W fun e w' => e = .returned (.int .i64 na) ∧ Below W.heap.size W w') ∧ (Calls Try.prog 29 #[.pointer (some ⟨tb, 0, none⟩)] W fun e w' => e = .returned (.int .i64 nb) ∧ Below W.heap.size W w') ∧
      (Calls Try.prog 30 #[.pointer (some ⟨p, 0, none⟩)] W fun e w' => e = .returned (.int .i64 ((na + nb : Nat) : Int)) ∧ Below W.heap.size W w') ∧ (lvb = 1 → nb = 1) ∧ na + nb ≤ 4096 := by
  obtain ⟨ρ, P, gens, free, D, rta, ia, da, Lsa, ra, rtb, ib, db, Lsb, rb, h1, hB, ⟨a1, a2, a3, a4⟩, ⟨b1, b2, b3, b4⟩, hc, hi, hr, hsp, hkp⟩ := h
  obtain ⟨s1, s2, s3⟩ := b1.tow.size b1.thk
  refine ⟨nodes Lsb, fun W hW => ⟨?_, (b1.below hB hW).slots (hB.below hW), pool_live (hB.below hW) h1 (by omega), fun hl => ?_, by omega⟩⟩
  · have := (a1.below hB hW).slots (hB.below hW)
    rw [a4] at this
    exact this
  · have h2 : nodes Lsb ≤ 1 := by omega
    have h3 : 0 < nodes Lsb := by
      obtain ⟨n0, h0⟩ := b1.top
      have := mem_flat h0 (x := (rb, n0)) (by simp)
      unfold nodes
      exact List.length_pos_of_mem this
    omega
theorem Two.checkB (h : Two w0 w p ta tb Ca na aa ac Cb lvb) (hlv : lvb ≤ 10000) (hC : Cb.length ≤ 100000) : Calls Try.prog 19 #[.pointer (some ⟨tb, 0, none⟩)] w fun e w' => e = .returned (.bool true) ∧ Below w.heap.size w w' := by
  obtain ⟨ρ, P, gens, free, D, rta, ia, da, Lsa, ra, rtb, ib, db, Lsb, rb, h1, hB, ⟨a1, a2, a3, a4⟩, ⟨b1, b2, b3, b4⟩, hc, hi, hr, hsp, hkp⟩ := h
  exact b1.check hB b2 (by have := (TreeIs.hll b1.tow b1.thk b4 hlv).2; omega) (by rw [b3]; exact hC) (by rw [b3])
theorem Two.dropB (hH : HandsOK) (h : Two w0 w p ta tb Ca na aa ac Cb lvb) (hlv : lvb ≤ 10000) : Calls Try.prog 32 #[.pointer (some ⟨tb, 0, none⟩)] w fun e w' => e = .returned (.tuple #[]) ∧ OneG w0 w' p ta tb Ca na aa ac := by
  obtain ⟨ρ, P, gens, free, D, rta, ia, da, Lsa, ra, rtb, ib, db, Lsb, rb, h1, hB, ⟨a1, a2, a3, a4⟩, ⟨b1, b2, b3, b4⟩, hc, hi, hr, hsp, hkp⟩ := h
  have hra := a1.rt4
  have hrb := b1.rt4
  refine (b1.drop hH hB hsp (TreeIs.hll b1.tow b1.thk b4 hlv).2).mono ?_
  rintro e w' ⟨he, gens', free', D', d', q1, q2, q3, q4, q5, q6⟩
  refine ⟨he, ρ, P, gens', free', D', rta, ia, da, Lsa, ra, rtb, ib, d', ⟨h1.1, by omega⟩, q1, ⟨?_, a2, a3, a4⟩, q2, by omega, hkp.ru q6 (by simp; omega)⟩
  exact (a1.ru q6 (by simp; omega) (by simp; omega)).inD (by rw [q5.2 ia hi]; exact a1.hd)
theorem OneG.below (h : OneG w0 w p ta tb Ca na aa ac) (hb : Below w.heap.size w w') : OneG w0 w' p ta tb Ca na aa ac := by
  obtain ⟨ρ, P, gens, free, D, rta, ia, da, Lsa, ra, rtb, ib, db, h1, hB, ⟨a1, a2⟩, h3, h4⟩ := h
  exact ⟨ρ, P, gens, free, D, rta, ia, da, Lsa, ra, rtb, ib, db, h1, hB.below hb, ⟨a1.below hB hb, a2⟩, h3.below hB hb, h4.1, h4.2.ru (RU.below (rs := []) hB.ro hb) (by simp)⟩
theorem OneG.bel (h : OneG w0 w p ta tb Ca na aa ac) : Below w0.heap.size w0 w := by
  obtain ⟨ρ, P, gens, free, D, rta, ia, da, Lsa, ra, rtb, ib, db, h1, hB, _⟩ := h
  exact hB.ro.bel
/-- What is left when b is gone. -/
theorem OneG.all (h : OneG w0 w p ta tb Ca na aa ac) (hC : Ca.length ≤ 100000) (hna : na ≤ 100000) :
    (Calls Try.prog 32 #[.pointer (some ⟨tb, 0, none⟩)] w fun e w' => e = .returned (.tuple #[]) ∧ w = w') ∧
    (∀ key value, Calls Try.prog 25 #[.pointer (some ⟨tb, 0, none⟩), .string key, .string value] w fun e w' => e = .returned (.tuple #[.string s0, .bool false, .int .i64 8]) ∧ Below w.heap.size w w') ∧
    (Calls Try.prog 24 #[.pointer (some ⟨tb, 0, none⟩)] w fun e w' => e = .returned (.int .i64 0) ∧ w = w') ∧
    (Calls Try.prog 29 #[.pointer (some ⟨tb, 0, none⟩)] w fun e w' => e = .returned (.int .i64 0) ∧ Below w.heap.size w w') ∧
    (Calls Try.prog 30 #[.pointer (some ⟨p, 0, none⟩)] w fun e w' => e = .returned (.int .i64 na) ∧ Below w.heap.size w w') ∧
    (Calls Try.prog 29 #[.pointer (some ⟨ta, 0, none⟩)] w fun e w' => e = .returned (.int .i64 na) ∧ Below w.heap.size w w') ∧
    (Calls Try.prog 19 #[.pointer (some ⟨ta, 0, none⟩)] w fun e w' => e = .returned (.bool true) ∧ Below w.heap.size w w') ∧ Calls Try.prog 22 #[.pointer (some ⟨ta, 0, none⟩)] w (AllEnd w Ca) ∧ At w 2 pcel aa ac Ca := by
  obtain ⟨ρ, P, gens, free, D, rta, ia, da, Lsa, ra, rtb, ib, db, h1, hB, ⟨a1, a2, a3, a4⟩, hG, hc, hkp⟩ := h
  have hs := a1.slots hB
  rw [a4] at hs
  have hal := a1.all hB (slim_flat a2) (by rw [a3]; exact hC)
  rw [a3] at hal
  exact ⟨hG.drop, fun k v => hG.put k v, hG.len, hG.slots hB, pool_live hB h1 hc, hs, a1.check hB a2 (by omega) (by rw [a3]; exact hC) (by rw [a3]), hal, hkp.1⟩
end
end Go.Proofs.Ytlhobbfncjjeaaa
