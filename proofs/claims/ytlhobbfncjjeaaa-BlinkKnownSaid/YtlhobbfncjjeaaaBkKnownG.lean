/- A B-link tree beside blocks that nobody writes; a tree of six keys has three nodes. BlinkKnown's reader: at its second visit the tree is dropped. -/
import Derived.Test.YtlhobbfncjjeaaaBkDrop
import Derived.Test.YtlhobbfncjjeaaaBkRead
import Derived.Test.YtlhobbfncjjeaaaBkKeepV
namespace Go.Proofs.Ytlhobbfncjjeaaa
open Go.RowKit
/-- What stands beside a tree: it bears whatever is not written. -/
def KOK (K : World → (Nat → Nat) → Prop) : Prop := ∀ rs w w' ρ ρ', 0 ∉ rs → 7 ∉ rs → RU rs w w' ρ ρ' → K w ρ → K w' ρ'
def TreeK (K : World → (Nat → Nat) → Prop) (w0 w : World) (p t : Nat) (C : Cont) (c0 lv : Nat) (fat : Bool) : Prop :=
  ∃ ρ P gens free D i d Ls r, (P.1 = p ∧ gens.length = c0) ∧ BW w0 w ρ P gens free D ∧ Tr w ρ P D 4 i t d Ls r C.length ∧ Slim Ls ∧ content Ls = C ∧ free.count true + nodes Ls = c0 ∧ leaves Ls ≤ lv ∧ (fat = true → Fat Ls) ∧ D.length = 1 ∧ K w ρ
section
variable {K : World → (Nat → Nat) → Prop} {w0 w w' : World} {p t c0 lv : Nat} {C : Cont} {fat : Bool}
theorem TreeK.is (h : TreeK K w0 w p t C c0 lv fat) : TreeIs w0 w p t C c0 lv fat := by
  obtain ⟨ρ, P, gens, free, D, i, d, Ls, r, h1, h2, h3, h4, h5, h6, h7, h8, h9, h10⟩ := h
  exact ⟨ρ, P, gens, free, D, 4, i, d, Ls, r, h1, h2, h3, h4, h5, h6, h7, h8⟩
theorem TreeK.k (h : TreeK K w0 w p t C c0 lv fat) : ∃ ρ, K w ρ := by
  obtain ⟨ρ, P, gens, free, D, i, d, Ls, r, h1, h2, h3, h4, h5, h6, h7, h8, h9, h10⟩ := h
  exact ⟨ρ, h10⟩
theorem TreeK.below (hK : KOK K) (h : TreeK K w0 w p t C c0 lv fat) (hb : Below w.heap.size w w') : TreeK K w0 w' p t C c0 lv fat := by
  obtain ⟨ρ, P, gens, free, D, i, d, Ls, r, h1, h2, h3, h4, h5, h6, h7, h8, h9, h10⟩ := h
  exact ⟨ρ, P, gens, free, D, i, d, Ls, r, h1, h2.below hb, h3.below h2 hb, h4, h5, h6, h7, h8, h9, hK [] _ _ _ _ (by simp) (by simp) (RU.below h2.ro hb) h10⟩
theorem TreeK.thin (h : TreeK K w0 w p t C c0 lv true) : TreeK K w0 w p t C c0 (max 1 (C.length / 2)) true := by
  obtain ⟨ρ, P, gens, free, D, i, d, Ls, r, h1, h2, h3, h4, h5, h6, h7, h8, h9⟩ := h
  refine ⟨ρ, P, gens, free, D, i, d, Ls, r, h1, h2, h3, h4, h5, h6, ?_, h8, h9⟩
  by_cases h2l : 2 ≤ leaves Ls
  · have := h3.tow.ge2 (h8 rfl) h2l
    rw [h5] at this
    omega
  · omega
/-- One leaf alone. -/
theorem TreeK.one (h : TreeK K w0 w p t C c0 1 fat) : TreeK K w0 w p t C c0 1 true := by
  obtain ⟨ρ, P, gens, free, D, i, d, Ls, r, h1, h2, h3, h4, h5, h6, h7, h8, h9⟩ := h
  refine ⟨ρ, P, gens, free, D, i, d, Ls, r, h1, h2, h3, h4, h5, h6, h7, fun _ => .inl ?_, h9⟩
  obtain ⟨s1, s2, s3⟩ := h3.tow.size h3.thk
  by_cases h4 : Ls.length = 1
  · exact h4
  · have : 2 ^ 1 ≤ 2 ^ (Ls.length - 1) := Nat.pow_le_pow_right (by omega) (by omega)
    omega
theorem TreeK.put (hK : KOK K) (h : TreeK K w0 w p t C c0 lv fat) {hh : Nat} (hlv : lv ≤ 10000) (hC : C.length ≤ 100000) (h2 : lv < 2 ^ hh) (h0 : 2 * lv + hh ≤ c0) (key value : Str) :
    Calls Try.prog 25 #[.pointer (some ⟨t, 0, none⟩), .string key, .string value] w fun e w' => e = .returned (.tuple #[.string ((cget C key).getD s0), .bool (cget C key).isSome, .int .i64 0]) ∧ TreeK K w0 w' p t (cput C key value) c0 (lv + 1) fat := by
  obtain ⟨ρ, P, gens, free, D, i, d, Ls, r, h1, hB, h3, h4, h5, h6, h7, h8, h9, h10⟩ := h
  have hn := h3.tow.room h3.thk h6 h7 h2 h0 key
  refine (h3.put hB h4 (TreeIs.hll h3.tow h3.thk h7 hlv).1 (by omega) key value).mono ?_
  rintro e w' (⟨_, he, ρ', D', d', free', Ls', r', q1, q2, q3, q4, q5, q6, q7, q8, q9, q10, q11, _⟩ | ⟨_, hlt, _⟩)
  · rw [h5] at he q4 q5
    refine ⟨he, ρ', P, gens, free', D', i, d', Ls', r', h1, q1, ?_, q6, q5, by omega, by omega, fun hf => q8 (h8 hf), by rw [q9.1]; exact h9, hK _ _ _ _ _ (by simp; omega) (by simp; omega) q2 h10⟩
    have hs : CSort C := by rw [← h5]; exact h3.tow.sorted
    rw [cput_len hs]
    exact q4
  · omega
theorem TreeK.delete (hK : KOK K) (h : TreeK K w0 w p t C c0 lv fat) (hlv : lv ≤ 10000) (hC : C.length ≤ 100000) (key : Str) :
    Calls Try.prog 26 #[.pointer (some ⟨t, 0, none⟩), .string key] w fun e w' => e = .returned (.tuple #[.string ((cget C key).getD s0), .bool (cget C key).isSome]) ∧ TreeK K w0 w' p t (cdel C key) c0 lv false := by
  obtain ⟨ρ, P, gens, free, D, i, d, Ls, r, h1, hB, h3, h4, h5, h6, h7, h8, h9, h10⟩ := h
  have hs : CSort C := by rw [← h5]; exact h3.tow.sorted
  obtain ⟨l1, l2⟩ := cdel_len hs key
  refine (h3.delete hB (slim_flat h4) (TreeIs.hll h3.tow h3.thk h7 hlv).1 (by omega) key (by rw [h5]; exact l2)).mono ?_
  rintro e w' ⟨he, ρ', D', d', Ls', q1, q2, q3, q4, q5, q6, q7, q8, q9, q10⟩
  rw [h5] at he q2 q3
  exact ⟨he, ρ', P, gens, free, D', i, d', Ls', r, h1, q1, by rw [l1]; exact q2, q4 h4, q3, by omega, by omega, (fun hf => by cases hf), by rw [q7.1]; exact h9, hK _ _ _ _ _ (by simp; omega) (by simp; omega) q5 h10⟩
/-- The tree has two leaves and a root. -/
def TreeR (K : World → (Nat → Nat) → Prop) (w0 w : World) (p t : Nat) (C : Cont) (c0 : Nat) : Prop :=
  ∃ ρ P gens free D i d Ls r, (P.1 = p ∧ gens.length = c0) ∧ BW w0 w ρ P gens free D ∧ Tr w ρ P D 4 i t d Ls r C.length ∧ Slim Ls ∧ content Ls = C ∧ free.count true + nodes Ls = c0 ∧ nodes Ls = 3 ∧ 2 ≤ Ls.length ∧ Ls.length ≤ 1000 ∧ D.length = 1 ∧ K w ρ
theorem cont_bound : ∀ {S : Lev} {x : Hd × BN}, (∀ y, y ∈ S → 2 ≤ y.2.pairs.length) → x ∈ S → x.2.pairs.length + 2 * (S.length - 1) ≤ (cont S).length
  | y :: S, x, h, hx => by
    rw [cont_cons, List.length_append, List.length_cons]
    have hge := cont_ge (S := S) (fun z hz => h z (by simp [hz]))
    have hy := h y (by simp)
    rcases List.mem_cons.1 hx with rfl | hx
    · omega
    · have := cont_bound (S := S) (fun z hz => h z (by simp [hz])) hx
      have hp : 0 < S.length := List.length_pos_of_mem hx
      omega
theorem two_levs {Ls : List Lev} (h : 2 ≤ Ls.length) : ∃ S0 S1 T, Ls = S0 :: S1 :: T := by
  cases Ls with
  | nil => simp at h
  | cons S0 T =>
    cases T with
    | nil => simp at h
    | cons S1 T => exact ⟨S0, S1, T, rfl⟩
theorem TreeK.put5 (hK : KOK K) (h : TreeK K w0 w p t C 10 2 true) (hC : C.length = 5) (key value : Str) :
    Calls Try.prog 25 #[.pointer (some ⟨t, 0, none⟩), .string key, .string value] w fun e w' => e = .returned (.tuple #[.string ((cget C key).getD s0), .bool (cget C key).isSome, .int .i64 0]) ∧ TreeR K w0 w' p t (cput C key value) 10 := by
  obtain ⟨ρ, P, gens, free, D, i, d, Ls, r, h1, hB, h3, h4, h5, h6, h7, h8, h9, h10⟩ := h
  have hn := h3.tow.room h3.thk h6 h7 (h := 2) (by omega) (by omega) key
  obtain ⟨s1, s2, s3⟩ := h3.tow.size h3.thk
  have s4 := h3.tow.le4 h4
  rw [h5] at s4
  have hl2 : leaves Ls = 2 := by omega
  have hL2 : 2 ≤ Ls.length := by
    rcases Nat.lt_or_ge Ls.length 2 with hh | hh
    · obtain ⟨x, hx⟩ := h3.tow.top
      rw [show Ls.length - 1 = 0 by omega] at hx
      rw [leaves_of hx] at hl2
      simp at hl2
    · exact hh
  have hfew : Few Ls := by
    intro S hS x hx
    have hok := h3.tow.ok _ _ hS
    have hge : ∀ y, y ∈ S → 2 ≤ y.2.pairs.length := fun y hy => by
      obtain ⟨l, hl⟩ := hok.node hy
      rw [pairs_len hl (hok.lf y hy)]
      rcases h8 rfl with hf | hf
      · omega
      · exact hf S hS y hy
    have := cont_bound hge hx
    rw [← content_of hS, h5] at this
    rw [leaves_of hS] at hl2
    obtain ⟨l, hl⟩ := hok.node hx
    rw [pairs_len hl (hok.lf x hx)] at this
    omega
  have hn3 : nodes Ls = 3 := by
    obtain ⟨S0, S1, T, hLs⟩ : ∃ S0 S1 T, Ls = S0 :: S1 :: T := two_levs hL2
    have h01 : Ls[0]? = some S0 := by rw [hLs]; rfl
    have h02 : Ls[1]? = some S1 := by rw [hLs]; rfl
    have hne : 0 < S1.length := by
      obtain ⟨x, hx⟩ := h3.tow.at h02 key
      exact List.length_pos_of_mem (atK_mem hx).1
    have h03 : S0.length = 2 := by rw [← leaves_of h01]; exact hl2
    have : S0.length + S1.length ≤ nodes Ls := by
      unfold nodes
      rw [hLs]
      simp
    omega
  refine (h3.put hB h4 (TreeIs.hll h3.tow h3.thk h7 (by omega)).1 (by omega) key value).mono ?_
  rintro e w' (⟨_, he, ρ', D', d', free', Ls', r', q1, q2, q3, q4, q5, q6, q7, q8, q9, q10, q11, q12⟩ | ⟨_, hlt, _⟩)
  · rw [h5] at he q4 q5
    have hn' := q12 hfew
    obtain ⟨g1, g2⟩ := TreeIs.hll q4.tow q4.thk (Nat.le_refl (leaves Ls')) (by omega)
    have hs : CSort C := by rw [← h5]; exact h3.tow.sorted
    have hL' : 2 ≤ Ls'.length := by
      obtain ⟨S, hS⟩ : ∃ S, Ls[1]? = some S := ⟨_, List.getElem?_eq_getElem (by omega)⟩
      obtain ⟨S', hS', _⟩ := q11 1 S hS
      have := (List.getElem?_eq_some_iff.1 hS').1
      omega
    refine ⟨he, ρ', P, gens, free', D', i, d', Ls', r', h1, q1, ?_, q6, q5, by omega, by omega, hL', g1, by rw [q9.1]; exact h9, hK _ _ _ _ _ (by simp; omega) (by simp; omega) q2 h10⟩
    rw [cput_len hs]
    exact q4
  · omega
end
end Go.Proofs.Ytlhobbfncjjeaaa
namespace Go.Proofs.Ytlhobbfncjjeaaa
open Go.RowKit
theorem known1_first {W : World} {b : Nat} {ad : Option Addr} (h : W.heap[b]? = some (.cells #[.int .i64 0] 3)) : Calls Try.prog 33 #[.pointer (some ⟨b, 0, none⟩), .pointer ad] W fun e W' => e = .returned (.tuple #[]) ∧ W' = W.setCell ⟨b, 0, none⟩ (.int .i64 1) := by
  have k0 : W.cell? ⟨b, 0, none⟩ = some (.int .i64 0) := by rw [cell_of_heap h]; rfl
  have f0 : W.frozen? ⟨b, 0, none⟩ = false := frozen_of_heap h _
  have hq := heap_lt h
  clear h
  go_enter Try.func33, Try.ntmps33
  go_wp2_with fail
  go_end0
  exact ⟨rfl, rfl⟩
/-- The visit at which the tree is dropped. -/
theorem known1_second {w0 W : World} {ρ : Nat → Nat} {P : Nat × Nat × Nat} {gens : List Int} {free : List Bool} {D : List ArD} {rt i t b bx : Nat} {d : ArD} {Ls : List Lev} {r : Hd} {size : Nat} (hH : HandsOK) (hB : BW w0 W ρ P gens free D) (hT : Tr W ρ P D rt i t d Ls r size)
    (hsep : ∀ j dj e x, j ≠ i → D[j]? = some dj → e ∈ dj.A.L → x ∈ d.A.L → e.slot ≠ x.slot) (hnl : nodes Ls ≤ 20000) (h : W.heap[b]? = some (.cells #[.int .i64 1] 3)) (hr : ρ b = 7) (hx : W.heap[bx]? = some (.cells #[.pointer (some ⟨t, 0, none⟩)] 31)) (hxr : ρ bx = 0) :
    Calls Try.prog 33 #[.pointer (some ⟨b, 0, none⟩), .pointer (some ⟨bx, 0, none⟩)] W fun e W' => e = .returned (.tuple #[]) ∧ ∃ gens' free' D' d', BW w0 W' ρ P gens' free' D' ∧ Gone W' ρ P D' rt i t d' ∧ gens'.length = gens.length ∧ free'.count true = free.count true + nodes Ls ∧ RU [7, 1, 2, 3, 12 + 3 * i, rt] W W' ρ ρ := by
  have hrt := hT.rt4
  have k0 : W.cell? ⟨b, 0, none⟩ = some (.int .i64 1) := by rw [cell_of_heap h]; rfl
  have f0 : W.frozen? ⟨b, 0, none⟩ = false := frozen_of_heap h _
  have hq := heap_lt h
  have hne : b ≠ bx := fun e => by rw [e, hxr] at hr; cases hr
  have hu : Upd [b] W (W.setCell ⟨b, 0, none⟩ (.int .i64 2)) := (Upd.refl _ _).setCell (by simp) _
  have hU : RU [7] W (W.setCell ⟨b, 0, none⟩ (.int .i64 2)) ρ ρ := RU.upd hB.ro hu (fun k hk _ => by simp at hk; subst hk; simp [hr])
  have hB1 := hB.turn0 hU (own_below hB.ro.bel hu (fun k hk _ => by simp at hk; subst hk; exact hB.ro.ge (by rw [hr]; omega))) (by simp)
  have hT1 := hT.ru hU (by simp) (by simp; omega)
  have hx1 : W.cell? ⟨bx, 0, none⟩ = some (.pointer (some ⟨t, 0, none⟩)) := by rw [cell_of_heap hx]; rfl
  have hqx := heap_lt hx
  have hDr := Lib.hid (hT1.drop hH hB1 hsep hnl)
  have hE : Hid (∀ e W', DropEnd w0 (W.setCell ⟨b, 0, none⟩ (.int .i64 2)) ρ P gens free D rt i t (nodes Ls) e W' → e = .returned (.tuple #[]) ∧ ∃ gens' free' D' d', BW w0 W' ρ P gens' free' D' ∧ Gone W' ρ P D' rt i t d' ∧ gens'.length = gens.length ∧ free'.count true = free.count true + nodes Ls ∧ RU [7, 1, 2, 3, 12 + 3 * i, rt] W W' ρ ρ) := Lib.hid fun e W' hd => by
    obtain ⟨h1, gens', free', D', d', q1, q2, q3, q4, q5, q6⟩ := hd
    exact ⟨h1, gens', free', D', d', q1, q2, q3, q4, (hU.mono (by simp)).trans (q6.mono (fun r hr => List.mem_cons_of_mem _ hr))⟩
  clear hH hB hT hsep hnl h hx hB1 hT1 hU hu
  go_enter Try.func33, Try.ntmps33
  go_wp2_with fail
  refine hDr.out.mono ?_
  intro e W' hd
  have h2 := hE.out e W' hd
  obtain ⟨rfl, h3⟩ := h2
  replace h3 := Lib.hid h3
  clear hDr hE hd
  go_wp2_with fail
  go_end0
  exact ⟨rfl, h3.out⟩
/-- The tree is gone, and all is given back. -/
def TreeG (K : World → (Nat → Nat) → Prop) (w0 w : World) (p t c0 : Nat) : Prop :=
  ∃ ρ P gens free D i d, (P.1 = p ∧ gens.length = c0) ∧ BW w0 w ρ P gens free D ∧ Gone w ρ P D 4 i t d ∧ free.count true = c0 ∧ K w ρ
section
variable {w0 w W : World} {ρ : Nat → Nat} {P : Nat × Nat × Nat} {gens : List Int} {free : List Bool} {D : List ArD} {i t b bx c0 : Nat} {d : ArD} {Ls : List Lev} {r : Hd} {size : Nat}
/-- The reader's world ahead of its visit number s (0, 1). -/
structure KD (w0 W : World) (ρ : Nat → Nat) (P : Nat × Nat × Nat) (gens : List Int) (free : List Bool) (D : List ArD) (i t b bx c0 : Nat) (d : ArD) (Ls : List Lev) (r : Hd) (size s : Nat) : Prop where
  cnt : CntI w0 ρ P gens free D 4 i t d Ls r size b s W ρ
  box : W.heap[bx]? = some (.cells #[.pointer (some ⟨t, 0, none⟩)] 31)
  rbx : ρ bx = 0
  one : D.length = 1
  gl : gens.length = c0
  ct : free.count true + nodes Ls = c0
  san : Sane Ls
  two : 2 ≤ Ls.length
theorem KD.sep {s : Nat} (h : KD w0 W ρ P gens free D i t b bx c0 d Ls r size s) : ∀ j dj e x, j ≠ i → D[j]? = some dj → e ∈ dj.A.L → x ∈ d.A.L → e.slot ≠ x.slot := fun j dj e x hj hd _ _ => by
  have h1 := (List.getElem?_eq_some_iff.1 hd).1
  have h2 := (List.getElem?_eq_some_iff.1 h.cnt.2.2.1.hd).1
  have := h.one
  omega
def GoneE (w0 w : World) (ρ : Nat → Nat) (P : Nat × Nat × Nat) (i t bx c0 : Nat) (W : World) : Prop :=
  ∃ gens' free' D' d', gens'.length = c0 ∧ BW w0 W ρ P gens' free' D' ∧ Gone W ρ P D' 4 i t d' ∧ free'.count true = c0 ∧ W.heap[bx]? = some (.cells #[.pointer (some ⟨t, 0, none⟩)] 31) ∧ RU [7, 1, 2, 3, 12 + 3 * i, 4] w W ρ ρ
theorem GoneE.own {S : List Nat} {W' : World} (h : GoneE w0 w ρ P i t bx c0 W) (hu : Upd S W W') (hS : ∀ k, k ∈ S → w.heap.size ≤ k ∧ k ≠ bx) (hz : ∀ k, w.heap.size ≤ k → ρ k = 0) (h0 : w0.heap.size ≤ w.heap.size) : GoneE w0 w ρ P i t bx c0 W' := by
  obtain ⟨gens', free', D', d', h1, hB, hG, h4, h5, h6⟩ := h
  have hr : RU [0] W W' ρ ρ := RU.upd hB.ro hu (fun k hk _ => by simp [hz k (hS k hk).1])
  exact ⟨gens', free', D', d', h1, hB.turn0 hr (own_below hB.ro.bel hu (fun k hk _ => Nat.le_trans h0 (hS k hk).1)) (by simp), hG.ru hr (by simp), h4, hu.heap h5 (fun hk => (hS bx hk).2 rfl), h6.own hu (fun k hk => (hS k hk).1)⟩
def LookD (w0 w : World) (ρ : Nat → Nat) (P : Nat × Nat × Nat) (i t bx c0 : Nat) (e : Ending) (W : World) : Prop := e = .returned (.tuple #[.agg #[.bool false, .slice none 0 0, .slice none 0 0, .slice none 0 0, .string ⟨#[]⟩, .bool false, .int .i64 0, .int .u64 0], .bool false]) ∧ GoneE w0 w ρ P i t bx c0 W
set_option maxRecDepth 100000 in
theorem look_drop (hH : HandsOK) (h : KD w0 w ρ P gens free D i t b bx c0 d Ls r size 1) (hh : Hd) :
    Calls Try.prog 46 #[.pointer (some ⟨t, 0, none⟩), .agg #[.int .i64 hh.1, .int .u64 hh.2], .func (.func 33) #[] #[.pointer (some ⟨b, 0, none⟩), .pointer (some ⟨bx, 0, none⟩)]] w (LookD w0 w ρ P i t bx c0) := by
  have hnf : ∀ W, (binOp .neq 1 (.func (.func 33) #[] #[.pointer (some ⟨b, 0, none⟩), .pointer (some ⟨bx, 0, none⟩)]) .nilFunc).run Try.prog W = .ok (.bool true) W := fun W => by
    simp only [binOp]
    simp [Op.equal, Op.maxDepth, run_equalIn_func_nil W 9999 1 (.func 33) #[] _ Try.underlying1]
  have hsep := h.sep
  obtain ⟨hc, hbox, hrb, hone, hgl, hct, hsn, htwo⟩ := h
  obtain ⟨_, hB, hT, hr7, hnb⟩ := hc
  have hw1 : IntKind.i64.wrap ((1 : Nat) : Int) = 1 := by decide
  rw [hw1] at hnb
  have h00 := hB.ro.bel.size
  have hfar := hB.ro.far
  have hbl := heap_lt hbox
  obtain ⟨h1, h2⟩ := hh
  simp only
  have hA := below_two w (.cells #[.int .i64 h1, .int .u64 h2] 70) (.cells #[.bool false, .slice none 0 0, .slice none 0 0, .slice none 0 0, .string ⟨#[]⟩, .bool false, .int .i64 0, .int .u64 0] 89)
  obtain ⟨hbx, hby⟩ := heap_two w (.cells #[.int .i64 h1, .int .u64 h2] 70) (.cells #[.bool false, .slice none 0 0, .slice none 0 0, .slice none 0 0, .string ⟨#[]⟩, .bool false, .int .i64 0, .int .u64 0] 89)
  have hvis := Lib.hid (known1_second hH (hB.below hA) (hT.below hB hA) hsep hsn.nod (Below.heap' hA hnb) hr7 (Below.heap' hA hbox) hrb)
  have hR0 : Hid (RU [] w ((w.alloc (.cells #[.int .i64 h1, .int .u64 h2] 70)).alloc (.cells #[.bool false, .slice none 0 0, .slice none 0 0, .slice none 0 0, .string ⟨#[]⟩, .bool false, .int .i64 0, .int .u64 0] 89)) ρ ρ) := Lib.hid (RU.below hB.ro hA)
  have hboxA := Below.heap' hA hbox
  replace hboxA := Lib.hid hboxA
  replace hbx := Lib.hid hbx
  replace hby := Lib.hid hby
  clear hH hB hT hsep hnb hA hbox hw1
  go_enter Try.func46, Try.ntmps46
  go_upto_region 2 with fail
  generalize (w.alloc (.cells #[.int .i64 h1, .int .u64 h2] 70)).alloc (.cells #[.bool false, .slice none 0 0, .slice none 0 0, .slice none 0 0, .string ⟨#[]⟩, .bool false, .int .i64 0, .int .u64 0] 89) = W0 at *
  go_wp2_with fail
  refine hvis.out.mono ?_
  clear hvis hnf
  rintro e w2 ⟨rfl, gens', free', D', d', hB2, hG2, hgl2, hct2, hU2⟩
  have hr1 : ρ w.heap.size = 0 := hfar _ (Nat.le_refl _)
  have hr2 : ρ (w.heap.size + 1) = 0 := hfar _ (by omega)
  have hx2 := hU2.heap hbx.out (by rw [hr1]; simp; omega)
  have hy2 := hU2.heap hby.out (by rw [hr2]; simp; omega)
  have hE2 : GoneE w0 w ρ P i t bx c0 w2 := ⟨gens', free', D', d', by omega, hB2, hG2, by omega, hU2.heap hboxA.out (by rw [hrb]; simp; omega), (hR0.out.mono (by simp)).trans hU2⟩
  obtain ⟨r1, r2, c1, _, _, _, _, hq⟩ := hG2.cells
  have hget := Lib.hid fun W (hW : Below w2.heap.size w2 W) => ANode.gGet_none d'.A [] (some ⟨P.1, 0, none⟩) h1 h2 W ((hB2.below hW).ag hG2.hd hG2.ta hG2.tc) (fun x hx => by rw [hG2.emp] at hx; cases hx)
  have hfin : Hid (∀ W W', Below w2.heap.size w2 W → Upd [w.heap.size + 1] W W' → LookD w0 w ρ P i t bx c0 (.returned (.tuple #[.agg #[.bool false, .slice none 0 0, .slice none 0 0, .slice none 0 0, .string ⟨#[]⟩, .bool false, .int .i64 0, .int .u64 0], .bool false])) W') := Lib.hid fun W W' hW hu =>
    ⟨rfl, (hE2.own (Upd.of_below (S := []) hW) (by simp) hfar h00).own hu (fun k hk => by simp at hk; subst hk; exact ⟨by omega, by omega⟩) hfar h00⟩
  have k0 : w2.cell? ⟨w.heap.size, 0, none⟩ = some (.int .i64 h1) := by rw [cell_of_heap hx2]; rfl
  have k1 : w2.cell? ⟨w.heap.size, 1, none⟩ = some (.int .u64 h2) := by rw [cell_of_heap hx2]; rfl
  have hqx := heap_lt hx2
  replace hy2 := Lib.hid hy2
  clear hE2 hG2 hB2 hU2 hx2 hbx hby hR0 hboxA hgl2 hct2 hr1 hr2 hsn htwo hone
  have hB := Below.refl w2.heap.size w2
  go_wp2_with fail
  go_region_with (go_at_call 52; refine (hget.out _ hB.drew).mono ?_; rintro z w3 ⟨rfl, hb3⟩; have hbw := hB.drew.trans (hb3.mono hB.drew.size); have hy3 := Below.heap' hb3 hy2.out; have hq3 := heap_lt hy3; have y := fun k => frozen_of_heap hy3 k; obtain ⟨y0, y1, y2, y3, y4, y5, y6, y7⟩ := And.intro (y 0) (And.intro (y 1) (And.intro (y 2) (And.intro (y 3) (And.intro (y 4) (And.intro (y 5) (And.intro (y 6) (y 7))))))); obtain ⟨z0, z1, z2, z3, z4, z5, z6, z7⟩ := node_cells false none 0 0 none 0 0 none 0 0 ⟨#[]⟩ false 0 0 hy3; clear y; replace hbw := Lib.hid hbw; clear hb3 hy3)
  all_goals
    go_wp2_with fail
    refine bodyPost_ret (v := .tuple #[.agg #[.bool false, .slice none 0 0, .slice none 0 0, .slice none 0 0, .string ⟨#[]⟩, .bool false, .int .i64 0, .int .u64 0], .bool false]) (by simp [results, Try.results46, go_sem, z0, z1, z2, z3, z4, z5, z6, z7]) rfl ?_
    refine hfin.out _ _ hbw.out ?_
    iterate 8 refine Upd.setCell ?_ (by simp) _
    exact Upd.refl _ _
theorem known_visits (hs : Sane Ls) : VisW (cntVis Ls) w0 t 33 #[] #[.pointer (some ⟨b, 0, none⟩), .pointer (some ⟨bx, 0, none⟩)] [7] 1 (CntI w0 ρ P gens free D 4 i t d Ls r size b) where
  r0 := by simp
  tree := by
    rintro s W ρ' ⟨rfl, h1, h2, h3, h4⟩
    exact ⟨hs, by simp [cntVis], P, gens, free, D, 4, i, d, r, size, h1, h2⟩
  own := by
    rintro s W W' ρ' S ⟨rfl, h1, h2, h3, h4⟩ hu hS
    have hr : RU [0] W W' ρ' ρ' := RU.upd h1.ro hu (fun k hk hl => by simp [(hS k hk hl).2])
    exact ⟨rfl, h1.turn0 hr (own_below h1.ro.bel hu fun k hk hl => (hS k hk hl).1) (by simp), h2.ru hr (by simp) (by simp), h3, hr.heap h4 (by rw [h3]; simp)⟩
  enter := enters_of Try.func33 (by kernel_rfl) rfl
  call := by
    rintro s W ρ' ⟨rfl, h1, h2, h3, h4⟩ hlim
    have hs0 : s = 0 := by
      have : s < 1 := hlim
      omega
    subst hs0
    have hw0 : IntKind.i64.wrap ((0 : Nat) : Int) = 0 := by decide
    have hw1 : IntKind.i64.wrap ((0 + 1 : Nat) : Int) = 1 := by decide
    rw [hw0] at h4
    refine (known1_first h4).mono ?_
    rintro e W' ⟨rfl, rfl⟩
    have hu : Upd [b] W (W.setCell ⟨b, 0, none⟩ (.int .i64 1)) := (Upd.refl _ _).setCell (by simp) _
    have hr : RU [7] W (W.setCell ⟨b, 0, none⟩ (.int .i64 1)) ρ' ρ' := RU.upd h1.ro hu (fun k hk hl => by simp at hk; subst hk; simp [h3])
    refine ⟨rfl, 0 + 1, ρ', rfl, ⟨rfl, h1.turn0 hr (own_below h1.ro.bel hu fun k hk hl => ?_) (by simp), h2.ru hr (by simp) (by simp), h3, ?_⟩, hr⟩
    · simp at hk
      subst hk
      exact h1.ro.ge (by rw [h3]; simp)
    · rw [heap_self, h4, hw1]
      rfl
theorem KD.own {S : List Nat} {W' : World} {s : Nat} (h : KD w0 W ρ P gens free D i t b bx c0 d Ls r size s) (hu : Upd S W W') (hS : ∀ k, k ∈ S → k < W.heap.size → w0.heap.size ≤ k ∧ ρ k = 0 ∧ k ≠ bx) : KD w0 W' ρ P gens free D i t b bx c0 d Ls r size s :=
  ⟨(known_visits (bx := bx) h.san).own s W W' ρ S h.cnt hu (fun k hk hl => ⟨(hS k hk hl).1, (hS k hk hl).2.1⟩), by
    rw [← h.box]
    exact hu.block bx (heap_lt h.box) (fun hk => (hS bx hk (heap_lt h.box)).2.2 rfl), h.rbx, h.one, h.gl, h.ct, h.san, h.two⟩
set_option maxRecDepth 100000 in
set_option maxHeartbeats 1000000 in
theorem leaf_drop (hH : HandsOK) (h : KD w0 w ρ P gens free D i t b bx c0 d Ls r size 0) (key : Str) :
    Calls Try.prog 43 #[.pointer (some ⟨t, 0, none⟩), .string key, .func (.func 33) #[] #[.pointer (some ⟨b, 0, none⟩), .pointer (some ⟨bx, 0, none⟩)]] w (LookD w0 w ρ P i t bx c0) := by
  obtain ⟨_, hB, hT, hr7, hnb⟩ := h.cnt
  obtain ⟨m0, htop⟩ := hT.top
  obtain ⟨j0, hj0, hP0⟩ := LeafP.start (V := cntVis Ls) (s := 0) (key := key) h.san htop
  have htwo := h.two
  obtain ⟨j1, hj1⟩ : ∃ j1, j0 = j1 + 1 := ⟨j0 - 1, by have hlen : j0 + 1 = Ls.length := hj0; omega⟩
  subst hj1
  obtain ⟨c0', c1, c2, c3, c4, c5, hq⟩ := hT.cells
  have h00 := hB.ro.bel.size
  have hfar := Lib.hid hB.ro.far
  have hbl := heap_lt h.box
  have hsan := h.san
  have hks : m0.keys.length ≤ 1000 := by have := hsan.slim (j1 + 1) _ hP0.at'.lev (r, m0) (by simp); simp only at this; omega
  have hlf : m0.leaf = false := by have := hP0.at'.lf; simpa using this
  have hst : Hid (sle ByteArray.empty key = true ∧ m0.covers key = true) := Lib.hid ⟨sle_s0 key, (hP0.sta (cntVis_static Ls)).2.2⟩
  obtain ⟨z, lo', m', A', B', hz, hz2, hz3, _⟩ := hP0.at'.kid hsan.tow hst.out.1 hst.out.2
  have hLk := Lib.hid fun wr (hk : KD w0 wr ρ P gens free D i t b bx c0 d Ls r size 0) => vis_look (cntVis_ok Ls) (known_visits (bx := bx) hsan) hk.cnt (Nat.lt_succ_self 0) hP0.at'.has
  have hmem := Lib.hid hP0.at'.memF
  have hno := Lib.hid hP0.at'.ok
  have hLd := Lib.hid fun wr (hk : KD w0 wr ρ P gens free D i t b bx c0 d Ls r size 1) hh => look_drop hH hk hh
  have hst0 : Hid (∀ W, Below w.heap.size w W → KD w0 W ρ P gens free D i t b bx c0 d Ls r size 0 ∧ RU [7] w W ρ ρ) := Lib.hid fun W hb => ⟨h.own (Upd.of_below (S := []) hb) (by simp), RU.below hB.ro hb⟩
  replace hz := Lib.hid hz
  clear hB hT hnb htop hP0 hj0 h hH
  go_enter Try.func43, Try.ntmps43
  go_wp2_with fail
  go_loopg [7] 2 (fun gk v wr => v = .bool false ∧ wr.heap[w.heap.size]? = some (.cells #[.bool false, .slice none 0 0, .slice none 0 0, .slice none 0 0, .string ⟨#[]⟩, .bool false, .int .i64 0, .int .u64 0] 89) ∧ RU [7] w wr ρ ρ ∧ ∃ hh : Hd, wr.heap[w.heap.size + 1]? = some (.cells #[.int .i64 hh.1, .int .u64 hh.2] 70) ∧ ((gk = 2 ∧ hh = r ∧ KD w0 wr ρ P gens free D i t b bx c0 d Ls r size 0) ∨ (gk = 1 ∧ KD w0 wr ρ P gens free D i t b bx c0 d Ls r size 1)))
  case atStart =>
    obtain ⟨hbx, hby⟩ := heap_two w (.cells #[.bool false, .slice none 0 0, .slice none 0 0, .slice none 0 0, .string ⟨#[]⟩, .bool false, .int .i64 0, .int .u64 0] 89) (.cells #[.int .i64 r.1, .int .u64 r.2] 70)
    obtain ⟨a1, a2⟩ := hst0.out _ (below_two w (.cells #[.bool false, .slice none 0 0, .slice none 0 0, .slice none 0 0, .string ⟨#[]⟩, .bool false, .int .i64 0, .int .u64 0] 89) (.cells #[.int .i64 r.1, .int .u64 r.2] 70))
    exact ⟨rfl, hbx, a2, r, hby, .inl ⟨rfl, rfl, a1⟩⟩
  case round =>
    clear c0' c1 c2 c3 c4 c5 hq hst0
    obtain ⟨rfl, hbz, hR1, hh, hbh, hcase⟩ := hrel
    have k0 : wr.cell? ⟨w.heap.size + 1, 0, none⟩ = some (.int .i64 hh.1) := by rw [cell_of_heap hbh]; rfl
    have k1 : wr.cell? ⟨w.heap.size + 1, 1, none⟩ = some (.int .u64 hh.2) := by rw [cell_of_heap hbh]; rfl
    have hbhq := heap_lt hbh
    have hra : ρ w.heap.size = 0 := hfar.out _ (Nat.le_refl _)
    have hrb : ρ (w.heap.size + 1) = 0 := hfar.out _ (by omega)
    rcases hcase with ⟨rfl, rfl, hK⟩ | ⟨rfl, hK⟩
    · have hl := Lib.hid (hLk.out wr hK)
      obtain ⟨h1, h2⟩ := hh
      simp only at k0 k1 hbh hl
      have hKh := Lib.hid hK
      replace hR1 := Lib.hid hR1
      replace hbz := Lib.hid hbz
      replace hbh := Lib.hid hbh
      clear hLk hK
      go_wp2_with fail
      refine hl.out.mono ?_
      clear hl
      rintro e w2 ⟨s2, ρ2, hs2, hI2, hR2, hn⟩
      obtain ⟨qka, qva, qha, qkc, qvc, qhc, rfl, hnf⟩ := hn m0 hmem.out
      have hs2' : s2 = 1 := hs2
      subst hs2'
      have hρ2 : ρ2 = ρ := hI2.1
      subst hρ2
      have hbz2 := hR2.heap hbz.out (by rw [hra]; simp)
      have hbh2 := hR2.heap hbh.out (by rw [hrb]; simp)
      have hK2 : KD w0 w2 ρ2 P gens free D i t b bx c0 d Ls ((h1, h2)) size 1 := ⟨hI2, hR2.heap hKh.out.box (by rw [hKh.out.rbx]; simp), hKh.out.rbx, hKh.out.one, hKh.out.gl, hKh.out.ct, hKh.out.san, hKh.out.two⟩
      have hR12 := hR1.out.trans hR2
      have hfin : Hid (∀ W W', Below w2.heap.size w2 W → Upd [w.heap.size, w.heap.size + 1] W W' → KD w0 W' ρ2 P gens free D i t b bx c0 d Ls ((h1, h2)) size 1 ∧ RU [7] w W' ρ2 ρ2) := Lib.hid fun W W' hb hu => by
        refine ⟨(hK2.own (Upd.of_below (S := []) hb) (by simp)).own hu (fun k hk _ => ?_), (hR12.own (Upd.of_below (S := []) hb) (by simp)).own hu (fun k hk => by simp at hk; omega)⟩
        simp only [List.mem_cons, List.not_mem_nil, or_false] at hk
        rcases hk with rfl | rfl
        · exact ⟨h00, hra, by omega⟩
        · exact ⟨by omega, hrb, by omega⟩
      have hKd := Lib.hid fun W hW => nKid_ok m0 qka qva qha qkc qvc qhc key z W hno.out (hnf.1.below (w' := W) m0 qka qva qha qkc qvc qhc hW) hks hlf hst.out.2 hz.out
      have hCv := Lib.hid fun W => nCovers_any m0.leaf qka m0.keys.length qkc qva m0.vals.length qvc qha m0.kids.length qhc m0.high m0.bnd m0.next.1 m0.next.2 key W
      rw [show (!m0.bnd || slt key m0.high) = true from hst.out.2] at hCv
      have hq2 := heap_lt hbh2
      replace hbz2 := Lib.hid hbz2
      replace hbh2 := Lib.hid hbh2
      clear hs2 hI2 hR2 hn hnf hK2 hR12 hmem hno hst hz k0 k1 hbhq hKh hR1 hbz hbh
      obtain ⟨lf, K, V, H, hi, bd, nx⟩ := m0
      simp only at hKd hCv hlf hks ⊢
      subst hlf
      go_wp2_with fail
      have hA : Below w2.heap.size w2 (w2.alloc (.cells #[.bool false, .slice qka K.length qkc, .slice qva V.length qvc, .slice qha H.length qhc, .string hi, .bool bd, .int .i64 nx.1, .int .u64 nx.2] 89)) := (Below.refl _ _).alloc (Nat.le_refl _) _
      have hT := heap_alloc_new w2 (.cells #[.bool false, .slice qka K.length qkc, .slice qva V.length qvc, .slice qha H.length qhc, .string hi, .bool bd, .int .i64 nx.1, .int .u64 nx.2] 89)
      generalize w2.alloc (.cells #[.bool false, .slice qka K.length qkc, .slice qva V.length qvc, .slice qha H.length qhc, .string hi, .bool bd, .int .i64 nx.1, .int .u64 nx.2] 89) = W2 at *
      refine (hCv.out W2).mono ?_
      clear hCv
      rintro e w3 ⟨rfl, hb3⟩
      have hB3 : Below w2.heap.size w2 w3 := hA.trans (hb3.mono hA.size)
      replace hT := Below.heap' hb3 hT
      clear hA hb3
      obtain ⟨c0, c1, c2, c3, c4, c5, c6, c7⟩ := node_cells _ _ _ _ _ _ _ _ _ _ _ _ _ _ hT
      have hqT := heap_lt hT
      replace hT := Lib.hid hT
      replace hB3 := Lib.hid hB3
      go_wp2_with fail
      refine (hKd.out w3 hB3.out).mono ?_
      clear hKd
      rintro e w4 ⟨rfl, hb4⟩
      have hB4 := hB3.out.trans (hb4.mono hB3.out.size)
      have hbz4 := Below.heap' hB4 hbz2.out
      have hbh4 := Below.heap' hB4 hbh2.out
      have k0 : w4.cell? ⟨w.heap.size + 1, 0, none⟩ = some (.int .i64 h1) := by rw [cell_of_heap hbh4]; rfl
      have k1 : w4.cell? ⟨w.heap.size + 1, 1, none⟩ = some (.int .u64 h2) := by rw [cell_of_heap hbh4]; rfl
      have f0 : w4.frozen? ⟨w.heap.size + 1, 0, none⟩ = false := frozen_of_heap hbh4 _
      have f1 : w4.frozen? ⟨w.heap.size + 1, 1, none⟩ = false := frozen_of_heap hbh4 _
      have hq4 := heap_lt hbh4
      replace hbz4 := Lib.hid hbz4
      replace hbh4 := Lib.hid hbh4
      replace hB4 := Lib.hid hB4
      clear c0 c1 c2 c3 c4 c5 c6 c7 hqT hb4
      go_wp2_with fail
      go_roundg 1
      case rel =>
        obtain ⟨a1, a2⟩ := hfin.out w4 _ hB4.out (((Upd.refl (S := [w.heap.size, w.heap.size + 1]) w4).setCell (p := ⟨w.heap.size + 1, 0, none⟩) (by simp) (.int .i64 z.1)).setCell (p := ⟨w.heap.size + 1, 1, none⟩) (by simp) (.int .u64 z.2))
        refine ⟨rfl, ?_, a2, z, ?_, .inr ⟨rfl, a1⟩⟩
        · rw [heap_set_other _ _ (by simp), heap_set_other _ _ (by simp)]
          exact hbz4.out
        · rw [heap_self, heap_self, hbh4.out]
          rfl
      case measure => omega
    · have hl := Lib.hid (hLd.out wr hK hh)
      obtain ⟨h1, h2⟩ := hh
      simp only at k0 k1 hbh hl
      have hbx := hK.rbx
      have hfw := hK.cnt.2.1.ro.far
      replace hR1 := Lib.hid hR1
      replace hbz := Lib.hid hbz
      have hqz := heap_lt hbz.out
      have hszr := hR1.out.size
      clear hLd hLk hbh hK
      go_wp2_with fail
      refine hl.out.mono ?_
      clear hl
      rintro e w2 ⟨rfl, hE⟩
      obtain ⟨gens', free', D', d', g1, g2, g3, g4, g5, g6⟩ := hE
      have hbz2 := g6.heap hbz.out (by rw [hra]; simp; omega)
      have hE2 : GoneE w0 w ρ P i t bx c0 w2 := ⟨gens', free', D', d', g1, g2, g3, g4, g5, (hR1.out.mono (by simp)).trans g6⟩
      have hsz2 := g6.size
      have hfin : Hid (∀ W W', Below w2.heap.size w2 W → Upd [w.heap.size] W W' → LookD w0 w ρ P i t bx c0 (.returned (.tuple #[.agg #[.bool false, .slice none 0 0, .slice none 0 0, .slice none 0 0, .string ⟨#[]⟩, .bool false, .int .i64 0, .int .u64 0], .bool false])) W') := Lib.hid fun W W' hW hu =>
        ⟨rfl, (hE2.own (Upd.of_below (S := []) hW) (by simp) hfar.out h00).own hu (fun k hk => by simp at hk; subst hk; exact ⟨Nat.le_refl _, by omega⟩) hfar.out h00⟩
      have hA : Below w2.heap.size w2 (w2.alloc (.cells #[.bool false, .slice none 0 0, .slice none 0 0, .slice none 0 0, .string ⟨#[]⟩, .bool false, .int .i64 0, .int .u64 0] 89)) := (Below.refl _ _).alloc (Nat.le_refl _) _
      have hT := heap_alloc_new w2 (.cells #[.bool false, .slice none 0 0, .slice none 0 0, .slice none 0 0, .string ⟨#[]⟩, .bool false, .int .i64 0, .int .u64 0] 89)
      have hbz3 := Below.heap' hA hbz2
      replace hA := Lib.hid hA
      replace hbz3 := Lib.hid hbz3
      replace hT := Lib.hid hT
      clear hE2 g1 g2 g3 g4 g5 g6 hbz2 k0 k1 hbhq
      obtain ⟨c0, c1, c2, c3, c4, c5, c6, c7⟩ := node_cells false none 0 0 none 0 0 none 0 0 ⟨#[]⟩ false 0 0 hT.out
      obtain ⟨d0, d1, d2, d3, d4, d5, d6, d7⟩ := node_cells false none 0 0 none 0 0 none 0 0 ⟨#[]⟩ false 0 0 hbz3.out
      have y := fun k => frozen_of_heap hbz3.out k
      obtain ⟨f0, f1, f2, f3, f4, f5, f6, f7⟩ := And.intro (y 0) (And.intro (y 1) (And.intro (y 2) (And.intro (y 3) (And.intro (y 4) (And.intro (y 5) (And.intro (y 6) (y 7)))))))
      have hqT := heap_lt hT.out
      have hqz3 := heap_lt hbz3.out
      clear y
      go_wp2_with fail
      refine bodyPost_ret (v := .tuple #[.agg #[.bool false, .slice none 0 0, .slice none 0 0, .slice none 0 0, .string ⟨#[]⟩, .bool false, .int .i64 0, .int .u64 0], .bool false]) (by simp [results, Try.results43, go_sem, d0, d1, d2, d3, d4, d5, d6, d7]) rfl ?_
      refine hfin.out _ _ hA.out ?_
      iterate 8 refine Upd.setCell ?_ (by simp) _
      exact Upd.refl _ _
theorem get_drop (hH : HandsOK) (h : KD w0 w ρ P gens free D i t b bx c0 d Ls r size 0) (key : Str) :
    Calls Try.prog 14 #[.pointer (some ⟨t, 0, none⟩), .string key, .func (.func 33) #[] #[.pointer (some ⟨b, 0, none⟩), .pointer (some ⟨bx, 0, none⟩)]] w fun e W => e = .returned (.tuple #[.string s0, .bool false, .bool true]) ∧ GoneE w0 w ρ P i t bx c0 W := by
  obtain ⟨_, hB, hT, _, _⟩ := h.cnt
  obtain ⟨_, c1, _, _, _, _, hq⟩ := hT.cells
  have hn := none_ok c1
  have h00 := hB.ro.bel.size
  have hfar := Lib.hid hB.ro.far
  have hbl := heap_lt h.box
  have hLf := Lib.hid (leaf_drop hH h key)
  clear hB hT h hH
  go_enter Try.func14, Try.ntmps14
  go_wp2_with fail
  refine hn.mono ?_
  rintro e w1 ⟨rfl, rfl⟩
  go_wp2_with fail
  refine hLf.out.mono ?_
  clear hLf hn
  rintro e w2 ⟨rfl, hE⟩
  have hsz : w.heap.size ≤ w2.heap.size := by
    obtain ⟨_, _, _, _, _, _, _, _, _, g6⟩ := hE
    exact g6.size
  have hfin := Lib.hid (hE.own (Upd.of_below (S := []) ((Below.refl w2.heap.size w2).alloc (Nat.le_refl _) (.cells #[.bool false, .slice none 0 0, .slice none 0 0, .slice none 0 0, .string ⟨#[]⟩, .bool false, .int .i64 0, .int .u64 0] 89))) (by simp) hfar.out h00)
  clear hE
  go_wp2_with fail
  go_ret3
  exact ⟨rfl, hfin.out⟩
end
end Go.Proofs.Ytlhobbfncjjeaaa
