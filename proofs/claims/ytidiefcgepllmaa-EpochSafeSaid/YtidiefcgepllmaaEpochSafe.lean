/- The law EpochSafe without its walk: the law's own blocks, what its functions do. -/
import Derived.Test.YtidiefcgepllmaaEpochPins
import Derived.Test.YtidiefcgepllmaaRowSet
namespace Go.Proofs.Ytidiefcgepllmaa
open Go.RowKit
/-- Eight bools. -/
abbrev B8 := Nat → Bool
def wcell (p : B8) : List Value := [.bool (p 0), .bool (p 1), .bool (p 2), .bool (p 3), .bool (p 4), .bool (p 5), .bool (p 6), .bool (p 7)]
def anyb (p : B8) : Bool := p 0 || p 1 || p 2 || p 3 || p 4 || p 5 || p 6 || p 7
def none8 : B8 := fun _ => false
def set8 (p : B8) (k : Nat) (b : Bool) : B8 := fun i => if i = k then b else p i
structure SafeSt where
  pin : B8
  waits : List B8
  ran : List Int
  wrong : Bool
  nbs : List Nat
theorem wcell_len (p : B8) : (wcell p).length = 8 := rfl
theorem wcell_one (p : B8) : ∀ y ∈ wcell p, y.oneCell' = true := by
  intro y hy
  simp [wcell] at hy
  rcases hy with rfl | rfl | rfl | rfl | rfl | rfl | rfl | rfl <;> rfl
theorem intCell_one (x : Int) : ∀ y ∈ intCell x, y.oneCell' = true := by
  intro y hy
  simp at hy
  subst hy
  rfl
theorem wcell_get (p : B8) (k : Nat) (hk : k < 8) : (wcell p)[k]? = some (.bool (p k)) := by
  rcases k with _ | _ | _ | _ | _ | _ | _ | _ | k <;> first | rfl | omega
theorem wcell_set (p : B8) (k : Nat) (hk : k < 8) (b : Bool) : wcell (set8 p k b) = (wcell p).set k (.bool b) := by
  rcases k with _ | _ | _ | _ | _ | _ | _ | _ | k <;> first | rfl | omega
/-- Where the law's own variables lie: pinned, waits, ran, wrong. -/
structure SafeB where
  pb : Nat
  wb : Nat
  rb : Nat
  gb : Nat
def Jsafe (base : Nat) (B : SafeB) (x : SafeSt) (O : List Nat) (w : World) : Prop :=
  ∃ wv rv : Value, O = B.pb :: B.wb :: B.rb :: B.gb :: (x.nbs ++ (wv.ownBlock.toList ++ rv.ownBlock.toList)) ∧ O.Nodup ∧ (∀ k, k ∈ O → base ≤ k ∧ k < w.heap.size) ∧
  True ∧ True ∧
  w.heap[B.pb]? = some (.cells (wcell x.pin).toArray 43) ∧ w.heap[B.wb]? = some (.cells #[wv] 44) ∧ w.heap[B.rb]? = some (.cells #[rv] 27) ∧ w.heap[B.gb]? = some (.cells #[.bool x.wrong] 4) ∧
  (∀ i b : Nat, x.nbs[i]? = some b → w.heap[b]? = some (.cells #[.int .i64 i] 3)) ∧
  Row base 43 8 wcell w wv x.waits ∧ Row base 3 1 intCell w rv x.ran
def capsS (B : SafeB) (nb : Nat) : Array Value := #[.pointer (some ⟨B.gb, 0, none⟩), .pointer (some ⟨B.wb, 0, none⟩), .pointer (some ⟨nb, 0, none⟩), .pointer (some ⟨B.rb, 0, none⟩)]
def runS (x : SafeSt) (i : Nat) : SafeSt := { x with wrong := x.wrong || anyb (x.waits.getD i none8), ran := x.ran.set i (wrap64 (x.ran.getD i 0 + 1)) }
def Rsafe (B : SafeB) (r : Ret) (x : SafeSt) (g : EpG) (x' : SafeSt) (g' : EpG) (l : List Ret) : Prop := g' = g ∧ l = [] ∧ ∃ i nb, r.caps = capsS B nb ∧ x.nbs[i]? = some nb ∧ x' = runS x i
set_option maxRecDepth 100000 in
set_option maxHeartbeats 2000000 in
theorem neq8 (b0 b1 b2 b3 b4 b5 b6 b7 : Bool) (w : World) : (binOp .neq 43 (.agg #[.bool b0, .bool b1, .bool b2, .bool b3, .bool b4, .bool b5, .bool b6, .bool b7]) (.agg #[.bool false, .bool false, .bool false, .bool false, .bool false, .bool false, .bool false, .bool false])).run Try.prog w =
    .ok (.bool (b0 || b1 || b2 || b3 || b4 || b5 || b6 || b7)) w := by
  cases b0 <;> cases b1 <;> cases b2 <;> cases b3 <;> cases b4 <;> cases b5 <;> cases b6 <;> cases b7 <;> kernel_rfl
theorem Jsafe.stab {base : Nat} {B : SafeB} {x : SafeSt} {O T : List Nat} {w w' : World} (h : Jsafe base B x O w) (hu : Upd T w w') (hT : ∀ k, k ∈ T → k ∉ O) : Jsafe base B x O w' := by
  obtain ⟨wv, rv, hO, h1, h2, h3, h4, h5, h6, h7, h8, h9, h10, h11⟩ := h
  have hn : ∀ k, k ∈ O → k ∉ T := fun k hk hh => hT k hh hk
  subst hO
  refine ⟨wv, rv, rfl, h1, fun k hk => ⟨(h2 k hk).1, Nat.lt_of_lt_of_le (h2 k hk).2 hu.size⟩, h3, h4, hu.heap h5 (hn _ (by simp)), hu.heap h6 (hn _ (by simp)), hu.heap h7 (hn _ (by simp)), hu.heap h8 (hn _ (by simp)), fun i b hi => hu.heap (h9 i b hi) (hn _ (by simp [List.mem_of_getElem? hi])), h10.upd hu (fun b hb => hn _ (by simp [hb])), h11.upd hu (fun b hb => hn _ (by simp [hb]))⟩
/-- What a closure of the law does. -/
theorem safe1_any {base : Nat} {B : SafeB} {x : SafeSt} {O : List Nat} (i nb : Nat) (w : World) (h : Jsafe base B x O w) (hi : x.nbs[i]? = some nb) (h3 : x.nbs.length ≤ x.waits.length) (h4 : x.nbs.length ≤ x.ran.length) :
    Calls Try.prog 24 (capsS B nb) w fun z w' => z = .returned (.tuple #[]) ∧ Jsafe base B (runS x i) O w' ∧ Upd O w w' := by
  obtain ⟨wv, rv, hO, h1, h2, _, _, h5, h6, h7, h8, h9, h10, h11⟩ := h
  have hil : i < x.nbs.length := (List.getElem?_eq_some_iff.1 hi).1
  have hwi : x.waits[i]? = some (x.waits.getD i none8) := by
    rw [List.getD_eq_getElem?_getD, List.getElem?_eq_getElem (by omega)]; rfl
  have hri : x.ran[i]? = some (x.ran.getD i 0) := by
    rw [List.getD_eq_getElem?_getD, List.getElem?_eq_getElem (by omega)]; rfl
  obtain ⟨wb', wc, hwv, hwo, _, _, _, _, _, hwc⟩ := h10.at hwi
  have hsub : Upd [B.gb] w (w.setCell ⟨B.gb, 0, none⟩ (.bool (x.wrong || anyb (x.waits.getD i none8)))) := (Upd.refl _ _).setCell (p := ⟨B.gb, 0, none⟩) (by simp) _
  subst hO
  have hnd := h1
  simp only [List.nodup_cons, List.mem_cons, List.mem_append, not_or] at hnd
  obtain ⟨⟨a1, a2, a3, a4, a5, a6⟩, ⟨b2, b3, b4, b5, b6⟩, ⟨c3, c4, c5, c6⟩, ⟨d4, d5, d6⟩, hrest⟩ := hnd
  have hgr : ∀ q, rv.ownBlock = some q → q ∉ [B.gb] := fun q hq hh => by
    simp at hh
    subst hh
    exact d6 (by rw [hq]; simp)
  have hgw : ∀ q, wv.ownBlock = some q → q ∉ [B.gb] := fun q hq hh => by
    simp at hh
    subst hh
    exact d5 (by rw [hq]; simp)
  have h11' := h11.upd hsub hgr
  obtain ⟨rb', rc, hrv, hro, hrc, hrf, hrow⟩ := h11'.setCell hri (j := 0) (y := wrap64 (x.ran.getD i 0 + 1)) (u := .int .i64 (wrap64 (x.ran.getD i 0 + 1))) (by decide) rfl
  have hsub2 : Upd [rb'] (w.setCell ⟨B.gb, 0, none⟩ (.bool (x.wrong || anyb (x.waits.getD i none8)))) ((w.setCell ⟨B.gb, 0, none⟩ (.bool (x.wrong || anyb (x.waits.getD i none8)))).setCell ⟨rb', i * 1 + 0, none⟩ (.int .i64 (wrap64 (x.ran.getD i 0 + 1)))) := (Upd.refl _ _).setCell (p := ⟨rb', i * 1 + 0, none⟩) (by simp) _
  have hrb : rb' ∈ rv.ownBlock.toList := by rw [hro]; simp
  have hnrb : ∀ k, k ∈ B.pb :: B.wb :: B.rb :: B.gb :: (x.nbs ++ wv.ownBlock.toList) → k ≠ rb' := by
    intro k hk hh
    subst hh
    simp only [List.mem_cons, List.mem_append] at hk
    have hd := hrest
    rw [← List.append_assoc, List.nodup_append] at hd
    rcases hk with rfl | rfl | rfl | rfl | hk
    · exact a6 hrb
    · exact b6 hrb
    · exact c6 hrb
    · exact d6 hrb
    · exact hd.2.2 _ (List.mem_append.2 hk) _ hrb rfl
  have hJ : Jsafe base B (runS x i) (B.pb :: B.wb :: B.rb :: B.gb :: (x.nbs ++ (wv.ownBlock.toList ++ rv.ownBlock.toList))) ((w.setCell ⟨B.gb, 0, none⟩ (.bool (x.wrong || anyb (x.waits.getD i none8)))).setCell ⟨rb', i * 1 + 0, none⟩ (.int .i64 (wrap64 (x.ran.getD i 0 + 1)))) := by
    have hkeep : ∀ k o, w.heap[k]? = some o → k ≠ B.gb → k ≠ rb' → ((w.setCell ⟨B.gb, 0, none⟩ (.bool (x.wrong || anyb (x.waits.getD i none8)))).setCell ⟨rb', i * 1 + 0, none⟩ (.int .i64 (wrap64 (x.ran.getD i 0 + 1)))).heap[k]? = some o := fun k o hk n1 n2 =>
      hsub2.heap (hsub.heap hk (by simp; exact n1)) (by simp; exact n2)
    refine ⟨wv, rv, rfl, h1, fun k hk => ⟨(h2 k hk).1, Nat.lt_of_lt_of_le (h2 k hk).2 (Nat.le_trans hsub.size hsub2.size)⟩, trivial, trivial, ?_, ?_, ?_, ?_, fun j b hj => ?_, ?_, hrow⟩
    · exact hkeep _ _ h5 (fun e => a3 e) (hnrb _ (by simp))
    · exact hkeep _ _ h6 (fun e => b3 e) (hnrb _ (by simp))
    · exact hkeep _ _ h7 (fun e => c3 e) (hnrb _ (by simp))
    · refine hsub2.heap ?_ (by simp; exact hnrb _ (by simp))
      rw [heap_set_same h8]; rfl
    · have hjm : b ∈ x.nbs := List.mem_of_getElem? hj
      exact hkeep _ _ (h9 j b hj) (fun e => d4 (by rw [← e]; exact hjm)) (hnrb _ (by simp [hjm]))
    · exact (h10.upd hsub hgw).upd hsub2 (fun q hq hh => by simp at hh; exact hnrb q (by simp [hq]) hh)
  have hU : Upd (B.pb :: B.wb :: B.rb :: B.gb :: (x.nbs ++ (wv.ownBlock.toList ++ rv.ownBlock.toList))) w ((w.setCell ⟨B.gb, 0, none⟩ (.bool (x.wrong || anyb (x.waits.getD i none8)))).setCell ⟨rb', i * 1 + 0, none⟩ (.int .i64 (wrap64 (x.ran.getD i 0 + 1)))) :=
    (hsub.mono (by simp)).trans (hsub2.mono (by simp; exact .inr (.inr (.inr (.inr (.inr (.inr hro)))))))
  have g0 : w.cell? ⟨B.gb, 0, none⟩ = some (.bool x.wrong) := by rw [cell_of_heap h8]; rfl
  have g1 : w.cell? ⟨B.wb, 0, none⟩ = some wv := by rw [cell_of_heap h6]; rfl
  have g2 : w.cell? ⟨nb, 0, none⟩ = some (.int .i64 i) := by rw [cell_of_heap (h9 i nb hi)]; rfl
  have g3 : w.cell? ⟨B.rb, 0, none⟩ = some rv := by rw [cell_of_heap h7]; rfl
  have gf : w.frozen? ⟨B.gb, 0, none⟩ = false := frozen_of_heap h8 0
  have e0 := hwc 0 _ rfl
  have e1 := hwc 1 _ rfl
  have e2 := hwc 2 _ rfl
  have e3 := hwc 3 _ rfl
  have e4 := hwc 4 _ rfl
  have e5 := hwc 5 _ rfl
  have e6 := hwc 6 _ rfl
  have e7 := hwc 7 _ rfl
  rw [Nat.add_zero] at e0
  have hnbm : nb ∈ x.nbs := List.mem_of_getElem? hi
  have m2 := hsub.cell g2 (by simp; exact fun hh => d4 (by rw [← hh]; exact hnbm))
  have m3 := hsub.cell g3 (by simp; exact fun hh => c3 hh)
  have m5 : (intCell (x.ran.getD i 0))[0]? = some (.int .i64 (x.ran.getD i 0)) := rfl
  rw [m5] at hrc
  simp only [Nat.mul_one, Nat.add_zero] at hrc hrf hJ hU
  have hblt : rb' < w.heap.size := by
    have := block_lt_of_cell hrc
    simpa [World.setCell] using this
  subst hwv hrv
  have hil2 : i < x.waits.length := by omega
  have hil3 : i < x.ran.length := by omega
  have hE := Lib.hid (And.intro hJ hU)
  have hqq : ∀ w', (binOp .neq 43 (.agg #[.bool (x.waits.getD i none8 0), .bool (x.waits.getD i none8 1), .bool (x.waits.getD i none8 2), .bool (x.waits.getD i none8 3), .bool (x.waits.getD i none8 4), .bool (x.waits.getD i none8 5), .bool (x.waits.getD i none8 6), .bool (x.waits.getD i none8 7)]) (.agg #[.bool false, .bool false, .bool false, .bool false, .bool false, .bool false, .bool false, .bool false])).run Try.prog w' = .ok (.bool (anyb (x.waits.getD i none8))) w' := fun w' => neq8 _ _ _ _ _ _ _ _ w'
  generalize x.waits.getD i none8 = pw at *
  generalize x.ran.getD i 0 = rv0 at *
  clear h1 h2 h3 h4 h5 h6 h7 h8 h9 h10 h11 h11' hwi hri hwc hsub hgr hgw hsub2 hrb hnrb hJ hU hrow hwo hro hi m5 a1 a2 a3 a4 a5 a6 b2 b3 b4 b5 b6 c3 c4 c5 c6 d4 d5 d6 hrest hnbm
  unfold capsS
  generalize hv : (x.wrong || anyb pw) = v at *
  replace hv := Lib.hid hv
  cases hxw : x.wrong with
  | true =>
    rw [hxw] at g0 hv
    have hvt : v = true := by have := hv.out; simpa using this.symm
    subst hvt
    clear hv hxw
    go_enter Try.func24, Try.ntmps24
    go_wp2
    go_end0
    exact ⟨rfl, hE.out⟩
  | false =>
    rw [hxw] at g0 hv
    have hvt : anyb pw = v := by have := hv.out; simpa using this
    rw [hvt] at hqq
    clear hv hxw hvt
    go_enter Try.func24, Try.ntmps24
    go_wp2
    go_end0
    exact ⟨rfl, hE.out⟩
theorem clo_safe (B : SafeB) (base e m : Nat) (NB : List Nat) : Clo (Jsafe base B) (Rsafe B) base e m (fun r => r.f = 24 ∧ ∃ nb, nb ∈ NB ∧ r.caps = capsS B nb) 100000 (fun _ x => (∀ nb, nb ∈ NB → nb ∈ x.nbs) ∧ x.nbs.length ≤ x.waits.length ∧ x.nbs.length ≤ x.ran.length) where
  stab := fun x O w w' T h hu hT => h.stab hu hT
  lt := by
    rintro x O w ⟨wv, rv, _, _, h2, _⟩ k hk
    exact h2 k hk
  app := by
    rintro r x g x' g' l ⟨_, rfl, _⟩
    simp
  down := fun _ _ h => h
  okr := by
    rintro r k x g x' g' l ⟨_, _, i, nb, _, _, rfl⟩ ⟨h, h2, h3⟩
    exact ⟨h, h2, by show _ ≤ (x.ran.set _ _).length; rw [List.length_set]; exact h3⟩
  enter := by
    rintro r ⟨h, _⟩
    rw [h]
    exact enters_of Try.func24 (by kernel_rfl) rfl
  run := by
    rintro r ⟨h1, nb, hnb, h2⟩ x g O v L w hE _ _ ⟨k, hk, hl1, hl2⟩
    obtain ⟨i, hi⟩ := List.mem_iff_getElem?.1 (hk nb hnb)
    rw [h1, h2]
    refine (safe1_any i nb w hE.rest hi hl1 hl2).mono ?_
    rintro z w' ⟨rfl, hJ, hU⟩
    refine ⟨rfl, v, O, runS x i, g, [], ⟨?_, hJ, hE.de, hE.dm, hE.dv⟩, ⟨rfl, rfl, i, nb, h2, hi, rfl⟩, hU.mono (by simp +contextual [foot]), fun k hk => .inl hk⟩
    rw [List.append_nil]
    exact hE.ep.upd hU hE.de hE.dm hE.dv
/-- What is retired, the i-th. -/
def mkR (B : SafeB) (nbs ats : List Nat) (i : Nat) : Ret := ⟨24, capsS B (nbs.getD i 0), ats.getD i 0⟩
theorem capsS_inj {B : SafeB} {a b : Nat} (h : capsS B a = capsS B b) : a = b := by
  simp [capsS] at h
  exact h
theorem getD_inj {l : List Nat} (hn : l.Nodup) {i j : Nat} (hi : i < l.length) (hj : l[j]? = some (l.getD i 0)) : j = i := by
  have h1 : l[i]? = some (l.getD i 0) := by rw [List.getD_eq_getElem?_getD, List.getElem?_eq_getElem hi]; rfl
  have hjl := (List.getElem?_eq_some_iff.1 hj).1
  rw [List.getElem?_eq_getElem hi] at h1
  rw [List.getElem?_eq_getElem hjl] at hj
  have : l[j] = l[i] := by injection hj with hj; injection h1 with h1; rw [hj, h1]
  have hp := List.pairwise_iff_getElem.1 hn
  rcases Nat.lt_trichotomy j i with hh | hh | hh
  · exact absurd this (hp j i hjl hi hh)
  · exact hh
  · exact absurd this.symm (hp i j hi hjl hh)
theorem safe_coll {B : SafeB} {x0 x : SafeSt} {g0 g : EpG} {xs kept later : List Ret} {n : Nat} (ats : List Nat) (h : Coll (Rsafe B) x0 g0 xs x g kept later n) (hnd : x0.nbs.Nodup) (hlr : x0.ran.length = x0.nbs.length)
    (hw : ∀ i, i < x0.nbs.length → (∀ y, y ∈ g0.S → ats.getD i 0 < y.t) → anyb (x0.waits.getD i none8) = false) (hwr : x0.wrong = false) :
    ∀ I : List Nat, xs = I.map (mkR B x0.nbs ats) → I.Nodup → (∀ i, i ∈ I → i < x0.nbs.length) →
    g = g0 ∧ later = [] ∧ x.pin = x0.pin ∧ x.waits = x0.waits ∧ x.nbs = x0.nbs ∧ x.wrong = false ∧ x.ran.length = x0.ran.length ∧ ∃ I' : List Nat, kept = I'.map (mkR B x0.nbs ats) ∧ I'.Sublist I ∧ I'.length + n = I.length ∧
      (∀ i, i ∈ I → (∀ y, y ∈ g0.S → ats.getD i 0 < y.t) → i ∉ I') ∧ ∀ j, x.ran.getD j 0 = if j ∈ I ∧ j ∉ I' then wrap64 (x0.ran.getD j 0 + 1) else x0.ran.getD j 0 := by
  induction h with
  | nil =>
    intro I hI _ _
    have : I = [] := by simpa using hI.symm
    subst this
    exact ⟨rfl, rfl, rfl, rfl, rfl, hwr, rfl, [], rfl, .slnil, rfl, by simp, by simp⟩
  | @skip xs x g kept later n r h1 h2 ih =>
    intro I hI hIn hIl
    rcases List.eq_nil_or_concat I with rfl | ⟨I0, i, rfl⟩
    · simp at hI
    · rw [List.concat_eq_append, List.map_append] at hI
      obtain ⟨hxs, hr⟩ := List.append_inj' hI rfl
      simp at hr
      rw [List.concat_eq_append] at hIn hIl ⊢
      rw [List.nodup_append] at hIn
      have hi0 : i ∉ I0 := fun hh => hIn.2.2 i hh i (by simp) rfl
      obtain ⟨rfl, rfl, p1, p2, p3, p4, p5, I', q1, q2, q3, q4, q5⟩ := ih I0 hxs hIn.1 (fun j hj => hIl j (by simp [hj]))
      refine ⟨rfl, rfl, p1, p2, p3, p4, p5, I' ++ [i], by rw [List.map_append, q1, hr]; rfl, q2.append (.refl _), by simp; omega, fun j hj hjr hj' => ?_, fun j => ?_⟩
      · rcases List.mem_append.1 hj' with h5 | h5
        · rcases List.mem_append.1 hj with h6 | h6
          · exact q4 j h6 hjr h5
          · exact hi0 (by rw [← List.mem_singleton.1 h6]; exact q2.subset h5)
        · rw [hr] at h2
          rw [List.mem_singleton.1 h5] at hjr
          exact h2 hjr
      · rw [q5 j]
        by_cases hji : j = i
        · subst hji
          rw [if_neg (fun hh => hi0 hh.1), if_neg (fun hh => hh.2 (by simp))]
        · simp [hji]
  | @run xs x g kept later n r x' g' app h1 h2 h3 ih =>
    intro I hI hIn hIl
    rcases List.eq_nil_or_concat I with rfl | ⟨I0, i, rfl⟩
    · simp at hI
    · rw [List.concat_eq_append, List.map_append] at hI
      obtain ⟨hxs, hr⟩ := List.append_inj' hI rfl
      simp at hr
      rw [List.concat_eq_append] at hIn hIl ⊢
      rw [List.nodup_append] at hIn
      have hi0 : i ∉ I0 := fun hh => hIn.2.2 i hh i (by simp) rfl
      have hil := hIl i (by simp)
      obtain ⟨rfl, rfl, p1, p2, p3, p4, p5, I', q1, q2, q3, q4, q5⟩ := ih I0 hxs hIn.1 (fun j hj => hIl j (by simp [hj]))
      obtain ⟨rfl, rfl, j0, nb, hc, hj0, rfl⟩ := h3
      rw [hr] at hc h2
      have hnb : nb = x0.nbs.getD i 0 := (capsS_inj hc).symm
      subst hnb
      rw [p3] at hj0
      obtain rfl : j0 = i := getD_inj hnd hil hj0
      have hi' : j0 ∉ I' := fun hh => hi0 (q2.subset hh)
      refine ⟨rfl, rfl, p1, p2, p3, ?_, ?_, I', q1, q2.trans (List.sublist_append_left _ _), by simp; omega, fun j hj hjr hj' => ?_, fun j => ?_⟩
      · show (x.wrong || anyb (x.waits.getD j0 none8)) = false
        rw [p4, p2, hw j0 hil h2]
        rfl
      · show (x.ran.set _ _).length = _
        rw [List.length_set, p5]
      · rcases List.mem_append.1 hj with hj | hj
        · exact q4 j hj hjr hj'
        · simp at hj; subst hj; exact hi' hj'
      · show (x.ran.set j0 (wrap64 (x.ran.getD j0 0 + 1))).getD j 0 = _
        have hq := q5 j
        rw [List.getD_eq_getElem?_getD, List.getElem?_set]
        by_cases hji : j0 = j
        · subst hji
          rw [if_pos rfl, if_pos (by rw [p5, hlr]; exact hil), if_pos ⟨by simp, hi'⟩, hq, if_neg (fun hh => hi0 hh.1)]
          rfl
        · rw [if_neg hji, ← List.getD_eq_getElem?_getD, hq]
          have : j ≠ j0 := fun hh => hji hh.symm
          simp [this]
/-- The law's own blocks at hand. -/
structure SafeOpen (base : Nat) (B : SafeB) (w : World) (x : SafeSt) (wv rv : Value) (P : World → SafeSt → Prop) : Prop where
  cw : w.cell? ⟨B.wb, 0, none⟩ = some wv
  cr : w.cell? ⟨B.rb, 0, none⟩ = some rv
  cg : w.cell? ⟨B.gb, 0, none⟩ = some (.bool x.wrong)
  cp : ∀ k, k < 8 → w.cell? ⟨B.pb, k, none⟩ = some (.bool (x.pin k))
  fr : ∀ i, w.frozen? ⟨B.wb, i, none⟩ = false ∧ w.frozen? ⟨B.rb, i, none⟩ = false ∧ w.frozen? ⟨B.gb, i, none⟩ = false ∧ w.frozen? ⟨B.pb, i, none⟩ = false
  rw' : Row base 43 8 wcell w wv x.waits
  rr : Row base 3 1 intCell w rv x.ran
  lt : B.wb < w.heap.size ∧ B.rb < w.heap.size ∧ B.gb < w.heap.size ∧ B.pb < w.heap.size
  kw : ∀ w1, Upd wv.ownBlock.toList w w1 → w1.cell? ⟨B.wb, 0, none⟩ = some wv ∧ w1.frozen? ⟨B.wb, 0, none⟩ = false
  kr : ∀ w1, Upd rv.ownBlock.toList w w1 → w1.cell? ⟨B.rb, 0, none⟩ = some rv ∧ w1.frozen? ⟨B.rb, 0, none⟩ = false
  appW : ∀ w1 wv' W', Upd wv.ownBlock.toList w w1 → Row base 43 8 wcell w1 wv' W' → (∀ q, wv'.ownBlock = some q → wv.ownBlock = some q ∨ w.heap.size ≤ q) → P (w1.setCell ⟨B.wb, 0, none⟩ wv') { x with waits := W' }
  appR : ∀ w1 rv' W', Upd rv.ownBlock.toList w w1 → Row base 3 1 intCell w1 rv' W' → (∀ q, rv'.ownBlock = some q → rv.ownBlock = some q ∨ w.heap.size ≤ q) → P (w1.setCell ⟨B.rb, 0, none⟩ rv') { x with ran := W' }
  setW : ∀ w1 W', Upd wv.ownBlock.toList w w1 → Row base 43 8 wcell w1 wv W' → P w1 { x with waits := W' }
  setP : ∀ k b, k < 8 → P (w.setCell ⟨B.pb, k, none⟩ (.bool b)) { x with pin := set8 x.pin k b }
  addN : P (w.alloc (.cells #[.int .i64 x.nbs.length] 3)) { x with nbs := x.nbs ++ [w.heap.size] }
theorem nodup_swap {l : List Nat} {v v' : Value} {n : Nat} {r : List Nat} (h : (l ++ (v.ownBlock.toList ++ r)).Nodup) (hlt : ∀ k, k ∈ l ++ (v.ownBlock.toList ++ r) → k < n) (hn : ∀ q, v'.ownBlock = some q → v.ownBlock = some q ∨ n ≤ q) : (l ++ (v'.ownBlock.toList ++ r)).Nodup := by
  cases hv : v'.ownBlock with
  | none =>
    refine h.sublist ?_
    simp only [Option.toList_none, List.nil_append]
    exact (List.Sublist.refl _).append (List.sublist_append_right _ _)
  | some q =>
    rcases hn q hv with h1 | h1
    · rw [h1] at h; exact h
    · have h2 : (l ++ r).Nodup := h.sublist ((List.Sublist.refl _).append (List.sublist_append_right _ _))
      have h3 : q ∉ l ++ r := fun hh => by
        have := hlt q (by
          rcases List.mem_append.1 hh with h4 | h4
          · exact List.mem_append_left _ h4
          · exact List.mem_append_right _ (List.mem_append_right _ h4))
        omega
      have hp : (l ++ ((some q).toList ++ r)).Perm (q :: (l ++ r)) := List.perm_middle
      exact hp.nodup_iff.2 (List.nodup_cons.2 ⟨h3, h2⟩)
theorem safe_open {base base' e m : Nat} {B : SafeB} {w0 w : World} {x : SafeSt} {g : EpG} {b : Bool} {L : List Ret} (h : EW (Jsafe base B) base' e m w0 w x g b L) :
    ∃ wv rv, SafeOpen base B w x wv rv (fun w1 x1 => EW (Jsafe base B) base' e m w0 w1 x1 g b L) ∧ x.nbs.Nodup := by
  have hew := h
  obtain ⟨v, O0, h⟩ := h
  obtain ⟨wv, rv, hO, h1, h2, h3, h4, h5, h6, h7, h8, h9, h10, h11⟩ := h.ej.rest
  have hnd := h1
  rw [hO] at hnd
  simp only [List.nodup_cons, List.mem_cons, List.mem_append, not_or] at hnd
  obtain ⟨⟨a1, a2, a3, a4, a5, a6⟩, ⟨b2, b3, b4, b5, b6⟩, ⟨c3, c4, c5, c6⟩, ⟨d4, d5, d6⟩, hrest⟩ := hnd
  have hnbs : x.nbs.Nodup := hrest.sublist (List.sublist_append_left _ _)
  have uni : ∀ O, Jsafe base B x O w → O = O0 := by
    rintro O ⟨wv2, rv2, rfl, _, _, _, _, _, k6, k7, _⟩
    rw [h6] at k6
    rw [h7] at k7
    simp at k6 k7
    subst k6 k7
    exact hO.symm
  have hlt0 : ∀ k, k ∈ O0 → base ≤ k ∧ k < w.heap.size := h2
  have heap1 : ∀ {T : List Nat} {w1 : World} (k : Nat) (o : Obj), Upd T w w1 → w.heap[k]? = some o → k ∉ T → w1.heap[k]? = some o := fun k o hu hk hn => hu.heap hk hn
  refine ⟨wv, rv, ⟨by rw [cell_of_heap h6]; rfl, by rw [cell_of_heap h7]; rfl, by rw [cell_of_heap h8]; rfl, fun k hk => by rw [cell_of_heap h5]; simpa using wcell_get x.pin k hk, fun i => ⟨frozen_of_heap h6 i, frozen_of_heap h7 i, frozen_of_heap h8 i, frozen_of_heap h5 i⟩, h10, h11, ⟨heap_lt h6, heap_lt h7, heap_lt h8, heap_lt h5⟩, fun w1 hu => ?_, fun w1 hu => ?_, ?_, ?_, ?_, ?_, ?_⟩, hnbs⟩
  · have := hu.heap h6 b5
    exact ⟨by rw [cell_of_heap this]; rfl, frozen_of_heap this 0⟩
  · have := hu.heap h7 c6
    exact ⟨by rw [cell_of_heap this]; rfl, frozen_of_heap this 0⟩
  · intro w1 wv' W' hu hr hn
    have hs : Upd [B.wb] w1 (w1.setCell ⟨B.wb, 0, none⟩ wv') := (Upd.refl _ _).setCell (p := ⟨B.wb, 0, none⟩) (by simp) _
    have hU : Upd (B.wb :: wv.ownBlock.toList) w (w1.setCell ⟨B.wb, 0, none⟩ wv') := (hu.mono (by simp +contextual)).trans (hs.mono (by simp))
    refine hew.rest hU ?_ ?_
    · intro O hJ k hk
      rw [uni O hJ, hO]
      left
      rcases List.mem_cons.1 hk with rfl | hk
      · simp
      · simp [mem_own hk]
    · intro O hJ
      have hkeep : ∀ k o, w.heap[k]? = some o → k ∈ O0 → k ≠ B.wb → k ∉ wv.ownBlock.toList → (w1.setCell ⟨B.wb, 0, none⟩ wv').heap[k]? = some o := fun k o hk _ n1 n2 => hU.heap hk (by simp only [List.mem_cons, not_or]; exact ⟨n1, n2⟩)
      have hnew : ∀ q, wv'.ownBlock = some q → q ≠ B.pb ∧ q ≠ B.wb ∧ q ≠ B.rb ∧ q ≠ B.gb ∧ q ∉ x.nbs ∧ rv.ownBlock ≠ some q := by
        intro q hq
        rcases hn q hq with h12 | h12
        · have hqm : q ∈ wv.ownBlock.toList := by rw [h12]; simp
          have hd := hrest
          rw [List.nodup_append] at hd
          refine ⟨fun e => a5 (by rw [← e]; exact hqm), fun e => b5 (by rw [← e]; exact hqm), fun e => c5 (by rw [← e]; exact hqm), fun e => d5 (by rw [← e]; exact hqm), fun hh => hd.2.2 q hh q (by simp [h12]) rfl, fun hh => ?_⟩
          have hd2 := hd.2.1
          rw [List.nodup_append] at hd2
          exact hd2.2.2 q hqm q (by rw [hh]; simp) rfl
        · have hq2 : ∀ k, k ∈ O0 → q ≠ k := fun k hk e => by have := (hlt0 k hk).2; omega
          refine ⟨hq2 _ (by simp [hO]), hq2 _ (by simp [hO]), hq2 _ (by simp [hO]), hq2 _ (by simp [hO]), fun hh => hq2 q (by simp [hO, hh]) rfl, fun hh => hq2 q (by simp [hO, hh]) rfl⟩
      have hnd2 : (B.pb :: B.wb :: B.rb :: B.gb :: (x.nbs ++ (wv'.ownBlock.toList ++ rv.ownBlock.toList))).Nodup := by
        have h1' := h1
        rw [hO] at h1'
        exact nodup_swap (l := B.pb :: B.wb :: B.rb :: B.gb :: x.nbs) (n := w.heap.size) h1' (fun k hk => (hlt0 k (by rw [hO]; exact hk)).2) hn
      have hsz := hU.size
      refine ⟨_, ⟨wv', rv, rfl, hnd2, fun k hk => ?_, trivial, trivial, hkeep _ _ h5 (by simp [hO]) a1 a5, ?_, hkeep _ _ h7 (by simp [hO]) (fun e => b2 e.symm) c5, hkeep _ _ h8 (by simp [hO]) (fun e => b3 e.symm) d5, fun i b hi => ?_, ?_, ?_⟩, fun k hk => ?_⟩
      · simp only [List.mem_cons, List.mem_append] at hk
        rcases hk with rfl | rfl | rfl | rfl | hk | hk | hk
        · have := hlt0 B.pb (by simp [hO]); omega
        · have := hlt0 B.wb (by simp [hO]); omega
        · have := hlt0 B.rb (by simp [hO]); omega
        · have := hlt0 B.gb (by simp [hO]); omega
        · have := hlt0 k (by simp [hO, hk]); omega
        · have h13 := hr.lt k (mem_own hk)
          have := hs.size
          omega
        · have := hlt0 k (by simp [hO, mem_own hk]); omega
      · rw [heap_set_same (hu.heap h6 b5)]; rfl
      · have hbm : b ∈ x.nbs := List.mem_of_getElem? hi
        have hd := hrest
        rw [List.nodup_append] at hd
        exact hkeep _ _ (h9 i b hi) (by simp [hO, hbm]) (fun e => b4 (by rw [← e]; exact hbm)) (fun hh => hd.2.2 b hbm b (by simp [mem_own hh]) rfl)
      · exact hr.upd hs (fun q hq hh => by simp at hh; exact (hnew q hq).2.1 hh)
      · exact h11.upd hU (fun q hq hh => by
          rcases List.mem_cons.1 hh with hh | hh
          · exact b6 (by rw [← hh, hq]; simp)
          · have hd := hrest
            rw [List.nodup_append] at hd
            have hd2 := hd.2.1
            rw [List.nodup_append] at hd2
            exact hd2.2.2 q hh q (by rw [hq]; simp) rfl)
      · rw [uni O hJ, hO]
        simp only [List.mem_cons, List.mem_append] at hk ⊢
        rcases hk with hk | hk | hk | hk | hk | hk | hk
        · exact .inl (.inl hk)
        · exact .inl (.inr (.inl hk))
        · exact .inl (.inr (.inr (.inl hk)))
        · exact .inl (.inr (.inr (.inr (.inl hk))))
        · exact .inl (.inr (.inr (.inr (.inr (.inl hk)))))
        · rcases hn k (mem_own hk) with h12 | h12
          · exact .inl (.inr (.inr (.inr (.inr (.inr (.inl (by rw [h12]; simp)))))))
          · exact .inr h12
        · exact .inl (.inr (.inr (.inr (.inr (.inr (.inr hk))))))
  · intro w1 rv' W' hu hr hn
    have hs : Upd [B.rb] w1 (w1.setCell ⟨B.rb, 0, none⟩ rv') := (Upd.refl _ _).setCell (p := ⟨B.rb, 0, none⟩) (by simp) _
    have hU : Upd (B.rb :: rv.ownBlock.toList) w (w1.setCell ⟨B.rb, 0, none⟩ rv') := (hu.mono (by simp +contextual)).trans (hs.mono (by simp))
    have hd := hrest
    rw [List.nodup_append] at hd
    have hd2 := hd.2.1
    rw [List.nodup_append] at hd2
    refine hew.rest hU ?_ ?_
    · intro O hJ k hk
      rw [uni O hJ, hO]
      left
      rcases List.mem_cons.1 hk with rfl | hk
      · simp
      · simp [mem_own hk]
    · intro O hJ
      have hkeep : ∀ k o, w.heap[k]? = some o → k ≠ B.rb → k ∉ rv.ownBlock.toList → (w1.setCell ⟨B.rb, 0, none⟩ rv').heap[k]? = some o := fun k o hk n1 n2 => hU.heap hk (by simp only [List.mem_cons, not_or]; exact ⟨n1, n2⟩)
      have hnr : ∀ q, rv'.ownBlock = some q → q ≠ B.rb := by
        intro q hq hh
        rcases hn q hq with h12 | h12
        · exact c6 (by rw [← hh, h12]; simp)
        · have := (hlt0 B.rb (by simp [hO])).2; omega
      have hnd2 : (B.pb :: B.wb :: B.rb :: B.gb :: (x.nbs ++ (wv.ownBlock.toList ++ rv'.ownBlock.toList))).Nodup := by
        have h1' := h1
        rw [hO] at h1'
        have e1 : ∀ u : Value, B.pb :: B.wb :: B.rb :: B.gb :: (x.nbs ++ (wv.ownBlock.toList ++ u.ownBlock.toList)) = (B.pb :: B.wb :: B.rb :: B.gb :: (x.nbs ++ wv.ownBlock.toList)) ++ (u.ownBlock.toList ++ []) := fun u => by simp
        rw [e1] at h1' ⊢
        exact nodup_swap (n := w.heap.size) h1' (fun k hk => (hlt0 k (by rw [hO, e1]; exact hk)).2) hn
      have hsz := hU.size
      refine ⟨_, ⟨wv, rv', rfl, hnd2, fun k hk => ?_, trivial, trivial, hkeep _ _ h5 a2 a6, hkeep _ _ h6 b2 b6, ?_, hkeep _ _ h8 (fun e => c3 e.symm) d6, fun i b hi => ?_, ?_, ?_⟩, fun k hk => ?_⟩
      · simp only [List.mem_cons, List.mem_append] at hk
        rcases hk with rfl | rfl | rfl | rfl | hk | hk | hk
        · have := hlt0 B.pb (by simp [hO]); omega
        · have := hlt0 B.wb (by simp [hO]); omega
        · have := hlt0 B.rb (by simp [hO]); omega
        · have := hlt0 B.gb (by simp [hO]); omega
        · have := hlt0 k (by simp [hO, hk]); omega
        · have := hlt0 k (by simp [hO, mem_own hk]); omega
        · have h13 := hr.lt k (mem_own hk)
          have := hs.size
          omega
      · rw [heap_set_same (hu.heap h7 c6)]; rfl
      · have hbm : b ∈ x.nbs := List.mem_of_getElem? hi
        exact hkeep _ _ (h9 i b hi) (fun e => c4 (by rw [← e]; exact hbm)) (fun hh => hd.2.2 b hbm b (by simp [mem_own hh]) rfl)
      · exact h10.upd hU (fun q hq hh => by
          rcases List.mem_cons.1 hh with hh | hh
          · exact c5 (by rw [← hh, hq]; simp)
          · exact hd2.2.2 q (by rw [hq]; simp) q hh rfl)
      · exact hr.upd hs (fun q hq hh => by simp at hh; exact hnr q hq hh)
      · rw [uni O hJ, hO]
        simp only [List.mem_cons, List.mem_append] at hk ⊢
        rcases hk with hk | hk | hk | hk | hk | hk | hk
        · exact .inl (.inl hk)
        · exact .inl (.inr (.inl hk))
        · exact .inl (.inr (.inr (.inl hk)))
        · exact .inl (.inr (.inr (.inr (.inl hk))))
        · exact .inl (.inr (.inr (.inr (.inr (.inl hk)))))
        · exact .inl (.inr (.inr (.inr (.inr (.inr (.inl hk))))))
        · rcases hn k (mem_own hk) with h12 | h12
          · exact .inl (.inr (.inr (.inr (.inr (.inr (.inr (by rw [h12]; simp)))))))
          · exact .inr h12
  · intro w1 W' hu hr
    have hd := hrest
    rw [List.nodup_append] at hd
    have hd2 := hd.2.1
    rw [List.nodup_append] at hd2
    refine hew.rest hu ?_ ?_
    · intro O hJ k hk
      rw [uni O hJ, hO]
      left
      simp [mem_own hk]
    · intro O hJ
      refine ⟨O0, ⟨wv, rv, hO, h1, fun k hk => ⟨(hlt0 k hk).1, Nat.lt_of_lt_of_le (hlt0 k hk).2 hu.size⟩, trivial, trivial, hu.heap h5 a5, hu.heap h6 b5, hu.heap h7 c5, hu.heap h8 d5, fun i b hi => ?_, hr, h11.upd hu (fun q hq hh => hd2.2.2 q hh q (by rw [hq]; simp) rfl)⟩, fun k hk => .inl (by rw [uni O hJ]; exact hk)⟩
      have hbm : b ∈ x.nbs := List.mem_of_getElem? hi
      exact hu.heap (h9 i b hi) (fun hh => hd.2.2 b hbm b (by simp [mem_own hh]) rfl)
  · intro k b hk
    have hs : Upd [B.pb] w (w.setCell ⟨B.pb, k, none⟩ (.bool b)) := (Upd.refl _ _).setCell (p := ⟨B.pb, k, none⟩) (by simp) _
    refine hew.rest hs ?_ ?_
    · intro O hJ j hj
      rw [uni O hJ, hO]
      left
      simp at hj
      simp [hj]
    · intro O hJ
      refine ⟨O0, ⟨wv, rv, hO, h1, fun j hj => ⟨(hlt0 j hj).1, Nat.lt_of_lt_of_le (hlt0 j hj).2 hs.size⟩, h3, h4, ?_, hs.heap h6 (by simp; exact fun e => a1 e.symm), hs.heap h7 (by simp; exact fun e => a2 e.symm), hs.heap h8 (by simp; exact fun e => a3 e.symm), fun i b' hi => ?_, h10.upd hs (fun q hq hh => by simp at hh; exact a5 (by rw [← hh, hq]; simp)), h11.upd hs (fun q hq hh => by simp at hh; exact a6 (by rw [← hh, hq]; simp))⟩, fun j hj => .inl (by rw [uni O hJ]; exact hj)⟩
      · rw [heap_set_same h5, wcell_set _ _ hk]
        simp
      · have hbm : b' ∈ x.nbs := List.mem_of_getElem? hi
        exact hs.heap (h9 i b' hi) (by simp; exact fun e => a4 (by rw [← e]; exact hbm))
  · have hu : Upd [] w (w.alloc (.cells #[.int .i64 x.nbs.length] 3)) := (Upd.refl _ _).alloc _
    refine hew.rest hu (by simp) ?_
    intro O hJ
    have hnO : w.heap.size ∉ O0 := fun hh => by have := (hlt0 _ hh).2; omega
    have e1 : B.pb :: B.wb :: B.rb :: B.gb :: ((x.nbs ++ [w.heap.size]) ++ (wv.ownBlock.toList ++ rv.ownBlock.toList)) = (B.pb :: B.wb :: B.rb :: B.gb :: x.nbs) ++ w.heap.size :: (wv.ownBlock.toList ++ rv.ownBlock.toList) := by simp
    have e2 : O0 = (B.pb :: B.wb :: B.rb :: B.gb :: x.nbs) ++ (wv.ownBlock.toList ++ rv.ownBlock.toList) := by rw [hO]; simp
    have hp : ((B.pb :: B.wb :: B.rb :: B.gb :: x.nbs) ++ w.heap.size :: (wv.ownBlock.toList ++ rv.ownBlock.toList)).Perm (w.heap.size :: O0) := by rw [e2]; exact List.perm_middle
    have hbs : base ≤ w.heap.size := by have := hlt0 B.pb (by simp [hO]); omega
    refine ⟨_, ⟨wv, rv, rfl, ?_, fun k hk => ?_, trivial, trivial, hu.heap h5 (by simp), hu.heap h6 (by simp), hu.heap h7 (by simp), hu.heap h8 (by simp), fun i b hi => ?_, h10.upd hu (by simp), h11.upd hu (by simp)⟩, fun k hk => ?_⟩
    · show (B.pb :: B.wb :: B.rb :: B.gb :: ((x.nbs ++ [w.heap.size]) ++ (wv.ownBlock.toList ++ rv.ownBlock.toList))).Nodup
      rw [e1]
      exact hp.nodup_iff.2 (List.nodup_cons.2 ⟨hnO, h1⟩)
    · replace hk : k ∈ B.pb :: B.wb :: B.rb :: B.gb :: ((x.nbs ++ [w.heap.size]) ++ (wv.ownBlock.toList ++ rv.ownBlock.toList)) := hk
      rw [e1] at hk
      rcases List.mem_cons.1 (hp.mem_iff.1 hk) with rfl | hk
      · exact ⟨hbs, by simp⟩
      · have := hlt0 k hk
        exact ⟨this.1, by simp; omega⟩
    · replace hi : (x.nbs ++ [w.heap.size])[i]? = some b := hi
      rcases Nat.lt_trichotomy i x.nbs.length with hl | hl | hl
      · rw [List.getElem?_append_left hl] at hi
        exact hu.heap (h9 i b hi) (by simp)
      · subst hl
        simp at hi
        subst hi
        exact heap_alloc_new _ _
      · rw [List.getElem?_eq_none (by simp; omega)] at hi
        cases hi
    · replace hk : k ∈ B.pb :: B.wb :: B.rb :: B.gb :: ((x.nbs ++ [w.heap.size]) ++ (wv.ownBlock.toList ++ rv.ownBlock.toList)) := hk
      rw [e1] at hk
      rcases List.mem_cons.1 (hp.mem_iff.1 hk) with rfl | hk
      · exact .inr (Nat.le_refl _)
      · exact .inl (by rw [uni O hJ]; exact hk)
end Go.Proofs.Ytidiefcgepllmaa
