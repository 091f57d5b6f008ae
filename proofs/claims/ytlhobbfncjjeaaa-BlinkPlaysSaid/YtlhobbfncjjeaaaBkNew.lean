/- The contracts of a B-link tree's Slots, Check. The contract of blink's New. -/
import Derived.Test.YtlhobbfncjjeaaaBkEnds
import Derived.Test.YtlhobbfncjjeaaaHeldG
import Derived.Test.YtlhobbfncjjeaaaBkPutX
namespace Go.Proofs.Ytlhobbfncjjeaaa
open Go.RowKit
section
variable {w0 w : World} {ρ : Nat → Nat} {P : Nat × Nat × Nat} {gens : List Int} {free : List Bool} {D : List ArD} {rt i t : Nat} {d : ArD} {Ls : List Lev} {r : Hd} {size : Nat}
theorem Tr.live (hB : BW w0 w ρ P gens free D) (h : Tr w ρ P D rt i t d Ls r size) :
    Calls Try.prog 48 #[.pointer (some ⟨d.A.a, 0, none⟩)] w fun e w' => e = .returned (.int .i64 (nodes Ls : Nat)) ∧ Below w.heap.size w w' := by
  have := ANode.gLive d.A [] _ w (hB.ag h.hd h.ta h.tc)
  have e : d.A.L.length = nodes Ls := by rw [h.cnt]; unfold handles nodes; rw [List.length_map]
  rw [← e]
  exact this
theorem Tr.slots (hB : BW w0 w ρ P gens free D) (h : Tr w ρ P D rt i t d Ls r size) :
    Calls Try.prog 29 #[.pointer (some ⟨t, 0, none⟩)] w fun e w' => e = .returned (.int .i64 (nodes Ls : Nat)) ∧ Below w.heap.size w w' := by
  obtain ⟨c0, c1, c2, c3, c4, c5, hq⟩ := h.cells
  have hn := none_ok c1
  have hL := h.live hB
  clear h hB
  go_enter Try.func29, Try.ntmps29
  go_wp2_with fail
  refine hn.mono ?_
  rintro e w1 ⟨rfl, rfl⟩
  go_wp2_with fail
  refine hL.mono ?_
  rintro e w1 ⟨rfl, hb⟩
  go_wp2_with fail
  go_ret
  exact ⟨rfl, hb⟩
theorem drop_nodes {j : Nat} {R : Lev} (hR : Ls[j]? = some R) : (Ls.drop j).flatten.length = R.length + (Ls.drop (j + 1)).flatten.length := by
  obtain ⟨h1, h2⟩ := List.getElem?_eq_some_iff.1 hR
  rw [List.drop_eq_getElem_cons h1, h2, List.flatten_cons, List.length_append]
theorem drop_le (Ls : List Lev) (j : Nat) : (Ls.drop j).flatten.length ≤ nodes Ls := by
  unfold nodes
  induction Ls generalizing j with
  | nil => simp
  | cons S Ls ih =>
    cases j with
    | zero => simp
    | succ j =>
      have := ih j
      rw [List.drop_succ_cons, List.flatten_cons, List.length_append]
      omega
theorem flatMap_eq {α β : Type} {f g : α → List β} : ∀ {l : List α}, (∀ x, x ∈ l → f x = g x) → l.flatMap f = l.flatMap g
  | [], _ => rfl
  | x :: l, h => by rw [List.flatMap_cons, List.flatMap_cons, h x (by simp), flatMap_eq (fun y hy => h y (by simp [hy]))]
theorem kids_under {S R : Lev} (hR : LevOK false R) (h : sk S = under R) : kidsOf R = S.map (·.1) := by
  have h1 := congrArg (List.map Prod.fst) h
  unfold sk under at h1
  rw [List.map_map, List.map_flatMap] at h1
  have h2 : S.map (Prod.fst ∘ fun x => (x.1, x.2.hi)) = S.map (·.1) := rfl
  rw [h2] at h1
  rw [h1]
  unfold kidsOf
  refine flatMap_eq fun x hx => ?_
  obtain ⟨l, hl⟩ := hR.node hx
  have hk := (hl.inn (hR.lf x hx)).2
  unfold kidsK
  rw [List.map_fst_zip (by simp; omega)]
set_option maxRecDepth 100000 in
set_option maxHeartbeats 4000000 in
theorem Tr.check (hB : BW w0 w ρ P gens free D) (h : Tr w ρ P D rt i t d Ls r size) (hs : Slim Ls) (hnl : nodes Ls ≤ 100000) (hcl : (content Ls).length ≤ 100000) (hsize : (content Ls).length = size) :
    Calls Try.prog 19 #[.pointer (some ⟨t, 0, none⟩)] w fun e w' => e = .returned (.bool true) ∧ Below w.heap.size w w' := by
  obtain ⟨n0, htop⟩ := h.top
  obtain ⟨c0, c1, c2, c3, c4, c5, hq⟩ := h.cells
  have hn := none_ok c1
  have hsm : ∀ x, x ∈ Ls.flatten → x.2.keys.length ≤ 1000 := fun x hx => by
    obtain ⟨R, hR, hx⟩ := List.mem_flatten.1 hx
    obtain ⟨k, hk⟩ := List.mem_iff_getElem?.1 hR
    have := hs k R hk x hx
    omega
  have hRl : ∀ (j : Nat) (R : Lev), Ls[j]? = some R → R.length ≤ 100000 := fun j R hR => by
    have := drop_nodes hR
    have h2 := drop_le Ls j
    omega
  have hKl : ∀ (j : Nat) (R : Lev), Ls[j]? = some R → (kidsOf R).length ≤ 100000 := fun j R hR => by
    cases j with
    | zero =>
      have hok := h.tow.ok _ _ hR
      have : kidsOf R = [] := by
        unfold kidsOf
        rw [List.flatMap_eq_nil_iff]
        intro x hx
        obtain ⟨l, hl⟩ := hok.node hx
        exact (hl.lf (hok.lf x hx)).2
      rw [this]; simp
    | succ j =>
      obtain ⟨hj, e⟩ := List.getElem?_eq_some_iff.1 hR
      have hS : Ls[j]? = some Ls[j] := List.getElem?_eq_getElem (by omega)
      have hok := h.tow.ok _ _ hR
      rw [show decide (j + 1 = 0) = false by simp] at hok
      rw [kids_under hok (h.tow.link _ _ _ hS hR), List.length_map]
      exact hRl _ _ hS
  have hl0 : 0 < Ls.length := by have := (List.getElem?_eq_some_iff.1 htop).1; omega
  have hLv := Lib.hid fun W (hW : Below w.heap.size w W) j R (hR : Ls[j]? = some R) ra rc hrow => (h.below hB hW).level (hB.below hW) hs hR (ra := ra) (rc := rc) hrow (hRl j R hR) (hKl j R hR)
  have hEd := Lib.hid fun W (hW : Below w.heap.size w W) j S R (hS : Ls[j]? = some S) (hR : Ls[j + 1]? = some R) ra rc sa sc hrow hrowS => (h.below hB hW).ends (hB.below hW) hS hR (ra := ra) (rc := rc) (sa := sa) (sc := sc) hrow hrowS (hRl _ _ hR) (hRl _ _ hS)
  have hAl := Lib.hid fun W (hW : Below w.heap.size w W) => (h.below hB hW).all (hB.below hW) hsm hcl
  have hLi := Lib.hid fun W (hW : Below w.heap.size w W) => (h.below hB hW).live (hB.below hW)
  have hku := Lib.hid fun (j : Nat) (S R : Lev) (hS : Ls[j]? = some S) (hR : Ls[j + 1]? = some R) => show kidsOf R = S.map (·.1) by
    have hok := h.tow.ok _ _ hR
    rw [show decide (j + 1 = 0) = false by simp] at hok
    exact kids_under hok (h.tow.link _ _ _ hS hR)
  have hnd := Lib.hid hnl
  replace hRl := Lib.hid hRl
  replace hsize := Lib.hid hsize
  clear h hB hs hKl hsm hnl hcl
  have hst : Row w.heap.size 70 2 hcel (w.alloc (.cells #[.int .i64 r.1, .int .u64 r.2] 70)) (.slice (some ⟨w.heap.size, 0, none⟩) 1 1) [r] :=
    ⟨hcel_len, hcel_one, rfl, .inr ⟨w.heap.size, 1, _, rfl, Nat.le_refl _, heap_alloc_new _ _, Nat.le_refl _, by unfold maxLen; omega, rfl, rfl⟩⟩
  have hst2 := Lib.hid hst.at'
  clear hst
  replace htop := Lib.hid htop
  have hbA := Lib.hid ((Below.refl w.heap.size w).alloc (Nat.le_refl _) (.cells #[.int .i64 r.1, .int .u64 r.2] 70))
  go_enter Try.func19, Try.ntmps19
  go_wp2_with fail
  refine hn.mono ?_
  rintro e w1 ⟨rfl, rfl⟩
  clear hn
  go_wp2_with fail
  go_loopg [3, 4] Ls.length (fun gk v3 v4 wr => ∃ (j : Nat) (R : Lev) (ra : Option Addr) (rc : Nat), gk = j + 1 ∧ Ls[j]? = some R ∧ v3 = .slice ra R.length rc ∧ v4 = .int .i64 ((Ls.drop (j + 1)).flatten.length : Nat) ∧ At wr 2 hcel ra rc (R.map (·.1)) ∧ Below w.heap.size w wr)
  case atStart =>
    refine ⟨Ls.length - 1, _, _, _, by omega, htop.out, rfl, ?_, hst2.out, hbA.out⟩
    rw [List.drop_eq_nil_of_le (by omega)]
    rfl
  case round =>
    clear hst2 hbA htop
    obtain ⟨j, R, ra, rc, rfl, hR, rfl, rfl, hrow, hB⟩ := hrel
    have hdn := drop_nodes hR
    have hrl := hRl.out _ _ hR
    have hnn : (Ls.drop j).flatten.length ≤ 100000 := by
      have := hnd.out
      have h2 := drop_le Ls j
      omega
    have hcv := Lib.hid (hLv.out wr hB j R hR ra rc hrow)
    obtain ⟨al, hal⟩ : ∃ al, al = (Ls.drop (j + 1)).flatten.length := ⟨_, rfl⟩
    obtain ⟨al2, hal2⟩ : ∃ al2, al2 = (Ls.drop j).flatten.length := ⟨_, rfl⟩
    rw [← hal, ← hal2] at hdn
    rw [← hal2] at hnn
    rw [← hal]
    have hsum : Hid ((al : Int) + (R.length : Int) = (al2 : Int)) := Lib.hid (by omega)
    replace hal := Lib.hid hal
    replace hal2 := Lib.hid hal2
    replace hrow := Lib.hid hrow
    replace hB := Lib.hid hB
    replace hR := Lib.hid hR
    clear hdn
    have hw1 : IntKind.i64.wrap ((al : Int) + (R.length : Int)) = (al : Int) + (R.length : Int) := IntWalk.i64_in _ (by have := hsum.out; omega)
    go_wp2_with fail
    refine hcv.out.mono ?_
    clear hcv
    rintro z w2 ⟨ka, kc, rfl, hkr, hb2⟩
    have hB2 := hB.out.trans (hb2.mono hB.out.size)
    have hrow2 := Lib.hid (hrow.out.below hb2)
    have hkat := Lib.hid hkr.at'
    have e1 := keep hB2 c1
    have e4 := keep hB2 c4
    have hq2 : t < w2.heap.size := block_lt_of_cell e1
    clear hkr hb2 hB hrow
    cases j with
    | zero =>
      rw [show decide (0 = 0) = true by simp]
      have hal3 : al2 = nodes Ls := by rw [hal2.out]; rfl
      have hls : (((al : Int) + (R.length : Int)) == ((nodes Ls : Nat) : Int)) = true := by rw [beq_iff_eq, hsum.out, hal3]
      have hls2 : (((content Ls).length : Nat) : Int) = (size : Int) := by rw [hsize.out]
      replace hal3 := Lib.hid hal3
      replace hls2 := Lib.hid hls2
      replace hB2 := Lib.hid hB2
      go_upto_region 11 with fail
      have hBel := (Below.refl w2.heap.size w2).drew
      refine wp_region_held_drew (S := fun w' => Below w2.heap.size w2 w') rfl hBel (fun hHeld => ?_)
      refine takeL 0 (by simp only [List.getElem?_toArray, List.getElem?_cons_zero]; rfl) hHeld ?_
      refine ⟨by kernel_rfl, by kernel_rfl, by kernel_rfl, ?_, fun _ _ _ h => h, Or.inl ⟨by rfl, ?_⟩, ?_⟩
      rotate_left 1
      · intro w hSw; (try dsimp only at hSw); go_simp; first | done | with_reducible rfl
      try simp only [Act.put, List.setIfInBounds_toArray, List.set_cons_zero, List.set_cons_succ]
      refine takeL 1 (by simp only [List.getElem?_toArray, List.getElem?_cons_succ, List.getElem?_cons_zero]; rfl) hHeld ?_
      refine ⟨by kernel_rfl, by kernel_rfl, by kernel_rfl, ?_, fun _ _ _ h => h, Or.inl ⟨by rfl, ?_⟩, ?_⟩
      rotate_left 1
      · intro w hSw; (try dsimp only at hSw); go_simp; first | done | with_reducible rfl
      try simp only [Act.put, List.setIfInBounds_toArray, List.set_cons_zero, List.set_cons_succ]
      refine takeL 2 (by simp only [List.getElem?_toArray, List.getElem?_cons_succ, List.getElem?_cons_zero]; rfl) hHeld ?_
      refine ⟨by kernel_rfl, by kernel_rfl, by kernel_rfl, ?_, fun _ _ _ h => h, Or.inl ⟨by rfl, ?_⟩, ?_⟩
      rotate_left 1
      · intro w hSw; (try dsimp only at hSw); go_simp; first | done | with_reducible rfl
      try simp only [Act.put, List.setIfInBounds_toArray, List.set_cons_zero, List.set_cons_succ]
      refine takeL 3 (by simp only [List.getElem?_toArray, List.getElem?_cons_succ, List.getElem?_cons_zero]; rfl) hHeld ?_
      refine ⟨by kernel_rfl, by kernel_rfl, by kernel_rfl, ?_, fun _ _ _ h => h, Or.inl ⟨by rfl, ?_⟩, ?_⟩
      rotate_left 1
      · intro w hSw; (try dsimp only at hSw); go_simp; first | done | with_reducible rfl
      try simp only [Act.put, List.setIfInBounds_toArray, List.set_cons_zero, List.set_cons_succ]
      refine takeL 4 (by simp only [List.getElem?_toArray, List.getElem?_cons_succ, List.getElem?_cons_zero]; rfl) hHeld ?_
      refine ⟨by kernel_rfl, by kernel_rfl, by kernel_rfl, ?_, fun _ _ _ h => h, Or.inl ⟨by rfl, ?_⟩, ?_⟩
      rotate_left 1
      · intro w hSw; (try dsimp only at hSw); have i1 := keep hSw e1; go_simp; first | done | with_reducible rfl
      try simp only [Act.put, List.setIfInBounds_toArray, List.set_cons_zero, List.set_cons_succ]
      generalize w2.drew = Wa at *
      refine readyL 5 (by kernel_rfl) (by simp only [List.getElem?_toArray, List.getElem?_cons_succ, List.getElem?_cons_zero]; rfl) ?_
      intro K hK
      go_simp
      go_at_call 48
      refine (hLi.out Wa (hB2.out.trans (hHeld.mono hB2.out.size))).mono ?_
      rintro z w3 ⟨rfl, hb3⟩
      have hS1 := hHeld.trans (hb3.mono hHeld.size)
      clear hb3
      go_wp2_with fail
      refine hK.out _ _ hS1 (fun _ => ?_)
      clear hHeld hBel hK K
      have hHeld := hS1
      clear hS1
      try simp only [Act.put, List.setIfInBounds_toArray, List.set_cons_zero, List.set_cons_succ]
      refine takeL 6 (by simp only [List.getElem?_toArray, List.getElem?_cons_succ, List.getElem?_cons_zero]; rfl) hHeld ?_
      refine ⟨by kernel_rfl, by kernel_rfl, by kernel_rfl, ?_, fun _ _ _ h => h, Or.inl ⟨by rfl, ?_⟩, ?_⟩
      rotate_left 1
      · intro w hSw; (try dsimp only at hSw); go_simp; first | done | with_reducible rfl
      try simp only [Act.put, List.setIfInBounds_toArray, List.set_cons_zero, List.set_cons_succ]
      refine takeL 7 (by simp only [List.getElem?_toArray, List.getElem?_cons_succ, List.getElem?_cons_zero]; rfl) hHeld ?_
      refine ⟨by kernel_rfl, by kernel_rfl, by kernel_rfl, ?_, fun _ _ _ h => h, Or.inl ⟨by rfl, ?_⟩, ?_⟩
      rotate_left 1
      · intro w hSw; (try dsimp only at hSw); go_simp; first | done | with_reducible rfl
      try simp only [Act.put, List.setIfInBounds_toArray, List.set_cons_zero, List.set_cons_succ]
      refine takeL 8 (by simp only [List.getElem?_toArray, List.getElem?_cons_succ, List.getElem?_cons_zero]; rfl) hHeld ?_
      refine ⟨by kernel_rfl, by kernel_rfl, by kernel_rfl, ?_, fun _ _ _ h => h, Or.inl ⟨by rfl, ?_⟩, ?_⟩
      rotate_left 1
      · intro w hSw; (try dsimp only at hSw); go_simp; first | done | with_reducible rfl
      try simp only [Act.put, List.setIfInBounds_toArray, List.set_cons_zero, List.set_cons_succ]
      refine takeL 11 (by simp only [List.getElem?_toArray, List.getElem?_cons_succ, List.getElem?_cons_zero]; rfl) hHeld ?_
      refine ⟨by kernel_rfl, by kernel_rfl, by kernel_rfl, ?_, fun _ _ _ h => h, Or.inl ⟨by rfl, ?_⟩, ?_⟩
      rotate_left 1
      · intro w hSw; (try dsimp only at hSw); go_simp; first | done | with_reducible rfl
      try simp only [Act.put, List.setIfInBounds_toArray, List.set_cons_zero, List.set_cons_succ]
      refine takeL 12 (by simp only [List.getElem?_toArray, List.getElem?_cons_succ, List.getElem?_cons_zero]; rfl) hHeld ?_
      refine ⟨by kernel_rfl, by kernel_rfl, by kernel_rfl, ?_, fun _ _ _ h => h, Or.inl ⟨by rfl, ?_⟩, ?_⟩
      rotate_left 1
      · intro w hSw; (try dsimp only at hSw); go_simp; first | done | with_reducible rfl
      try simp only [Act.put, List.setIfInBounds_toArray, List.set_cons_zero, List.set_cons_succ]
      refine takeL 13 (by simp only [List.getElem?_toArray, List.getElem?_cons_succ, List.getElem?_cons_zero]; rfl) hHeld ?_
      refine ⟨by kernel_rfl, by kernel_rfl, by kernel_rfl, ?_, fun _ _ _ h => h, Or.inl ⟨by rfl, ?_⟩, ?_⟩
      rotate_left 1
      · intro w hSw; (try dsimp only at hSw); go_simp; first | done | with_reducible rfl
      try simp only [Act.put, List.setIfInBounds_toArray, List.set_cons_zero, List.set_cons_succ]
      refine takeL 14 (by simp only [List.getElem?_toArray, List.getElem?_cons_succ, List.getElem?_cons_zero]; rfl) hHeld ?_
      refine ⟨by kernel_rfl, by kernel_rfl, by kernel_rfl, ?_, fun _ _ _ h => h, Or.inl ⟨by rfl, ?_⟩, ?_⟩
      rotate_left 1
      · intro w hSw; (try dsimp only at hSw); have i4 := keep hSw e4; go_simp; first | done | with_reducible rfl
      try simp only [Act.put, List.setIfInBounds_toArray, List.set_cons_zero, List.set_cons_succ]
      refine readyL 9 (by kernel_rfl) (by simp only [List.getElem?_toArray, List.getElem?_cons_succ, List.getElem?_cons_zero]; rfl) ?_
      intro K hK
      go_simp
      go_at_call 22
      refine (hAl.out w3 (hB2.out.trans (hHeld.mono hB2.out.size))).mono ?_
      rintro z w4 ⟨aa, ac, rfl, _, hb4⟩
      have hS1 := hHeld.trans (hb4.mono hHeld.size)
      clear hb4
      go_wp2_with fail
      refine hK.out _ _ hS1 (fun _ => ?_)
      clear hHeld hK K
      have hHeld := hS1
      clear hS1
      try simp only [Act.put, List.setIfInBounds_toArray, List.set_cons_zero, List.set_cons_succ]
      rw [hsize.out]
      refine takeL 10 (by simp only [List.getElem?_toArray, List.getElem?_cons_succ, List.getElem?_cons_zero]; rfl) hHeld ?_
      refine ⟨by kernel_rfl, by kernel_rfl, by kernel_rfl, ?_, fun _ _ _ h => h, Or.inl ⟨by rfl, ?_⟩, ?_⟩
      rotate_left 1
      · intro w hSw; (try dsimp only at hSw); go_simp; first | done | with_reducible rfl
      try simp only [Act.put, List.setIfInBounds_toArray, List.set_cons_zero, List.set_cons_succ]
      refine takeL 15 (by simp only [List.getElem?_toArray, List.getElem?_cons_succ, List.getElem?_cons_zero]; rfl) hHeld ?_
      refine ⟨by kernel_rfl, by kernel_rfl, by kernel_rfl, ?_, fun _ _ _ h => h, Or.inl ⟨by rfl, ?_⟩, ?_⟩
      rotate_left 1
      · intro w hSw; (try dsimp only at hSw); go_simp; first | done | with_reducible rfl
      try simp only [Act.put, List.setIfInBounds_toArray, List.set_cons_zero, List.set_cons_succ]
      refine takeL 16 (by simp only [List.getElem?_toArray, List.getElem?_cons_succ, List.getElem?_cons_zero]; rfl) hHeld ?_
      refine ⟨by kernel_rfl, by kernel_rfl, by kernel_rfl, ?_, fun _ _ _ h => h, Or.inl ⟨by rfl, ?_⟩, ?_⟩
      rotate_left 1
      · intro w hSw; (try dsimp only at hSw); go_simp; first | done | with_reducible rfl
      try simp only [Act.put, List.setIfInBounds_toArray, List.set_cons_zero, List.set_cons_succ]
      refine readyL 17 (by kernel_rfl) (by simp only [List.getElem?_toArray, List.getElem?_cons_succ, List.getElem?_cons_zero]; rfl) ?_
      intro K hK
      go_simp
      refine hK.out _ _ hHeld (fun _ => ?_)
      clear hK K
      try simp only [Act.put, List.setIfInBounds_toArray, List.set_cons_zero, List.set_cons_succ]
      refine wpAnyH_done (by kernel_rfl) ?_ _
      simp only [Exit.then]
      go_wp2_with fail
      go_ret
      exact ⟨by simp, hB2.out.trans (hHeld.mono hB2.out.size)⟩
    | succ j =>
      rw [show decide (j + 1 = 0) = false by simp]
      obtain ⟨hj1, he1⟩ := List.getElem?_eq_some_iff.1 hR.out
      obtain ⟨S, hSe⟩ : ∃ S, S = Ls[j] := ⟨_, rfl⟩
      have hS : Ls[j]? = some S := by rw [hSe]; exact List.getElem?_eq_getElem (by omega)
      have hkS := hku.out j S R hS hR.out
      have hkl : (kidsOf R).length = S.length := by rw [hkS, List.length_map]
      rw [hkl]
      have hkat2 := hkat.out
      rw [hkS] at hkat2
      have hce := Lib.hid (hEd.out w2 hB2 j S R hS hR.out ra rc ka kc hrow2.out hkat2)
      replace hkat2 := Lib.hid hkat2
      replace hB2 := Lib.hid hB2
      replace hS := Lib.hid hS
      clear hkl hkS hSe he1 hj1 hkat e1 e4
      go_wp2_with fail
      refine hce.out.mono ?_
      clear hce
      rintro z w3 ⟨rfl, hb3⟩
      have hB3 := Lib.hid (hB2.out.trans (hb3.mono hB2.out.size))
      have hk3 := Lib.hid (hkat2.out.below hb3)
      clear hb3 hB2 hkat2
      go_wp2_with fail
      go_roundg (j + 1)
      case rel =>
        refine ⟨j, S, ka, kc, rfl, hS.out, rfl, ?_, hk3.out, hB3.out⟩
        rw [hsum.out, hal2.out]
      case measure => omega
end
end Go.Proofs.Ytlhobbfncjjeaaa
namespace Go.Proofs.Ytlhobbfncjjeaaa
open Go.RowKit
/-- A leaf without keys. -/
def leaf0 : BN := ⟨true, [], [], [], s0, false, (0, 0)⟩
theorem leaf0_at (w : World) : NodeAt w leaf0 none none none 0 0 0 := ⟨⟨Nat.zero_le _, Nat.zero_le _, .inl ⟨rfl, rfl⟩⟩, ⟨Nat.zero_le _, Nat.zero_le _, .inl ⟨rfl, rfl⟩⟩, ⟨Nat.zero_le _, Nat.zero_le _, .inl ⟨rfl, rfl⟩⟩⟩
theorem tower0 (r : Hd) : Tower [[(r, leaf0)]] := by
  refine ⟨fun j R hR => ?_, fun j S R hS hR => ?_, ⟨_, rfl⟩⟩
  · cases j with
    | zero =>
      simp at hR
      subst hR
      refine ⟨⟨⟨Rises.nil, by simp [leaf0], by simp [leaf0], fun _ => rfl, fun _ => ⟨rfl, rfl⟩, fun e => by simp [leaf0] at e, fun e => by simp [leaf0] at e⟩, rfl, ?_⟩, fun x hx => ?_⟩
      · simp [leaf0]
      · simp at hx; subst hx; rfl
    | succ j => simp at hR
  · simp at hR
theorem thick0 (r : Hd) : Thick [[(r, leaf0)]] := fun j R hR hj x hx => by
  cases j with
  | zero => omega
  | succ j => simp at hR
theorem slim0 (r : Hd) : Slim [[(r, leaf0)]] := fun j R hR x hx => by
  cases j with
  | zero => simp at hR; subst hR; simp at hx; subst hx; simp [leaf0]
  | succ j => simp at hR
section
variable {w0 w : World} {ρ : Nat → Nat} {P : Nat × Nat × Nat} {gens : List Int} {free : List Bool} {D : List ArD} {rt i t : Nat} {d : ArD} {Ls : List Lev} {r : Hd} {size : Nat}
def NewEnd (w0 w : World) (ρ : Nat → Nat) (P : Nat × Nat × Nat) (gens : List Int) (free : List Bool) (D : List ArD) (rt : Nat) (e : Ending) (w' : World) : Prop :=
  ∃ t ρ' d r, e = .returned (.tuple #[.pointer (some ⟨t, 0, none⟩), .int .i64 0]) ∧ BW w0 w' ρ' P gens (free.set (free.idxOf true) false) (D ++ [d]) ∧ Tr w' ρ' P (D ++ [d]) rt D.length t d [[(r, leaf0)]] r 0 ∧ RU [1, 2, 3, 12 + 3 * D.length] w w' ρ ρ' ∧ ∀ j dj e x, j ≠ D.length → D[j]? = some dj → e ∈ dj.A.L → x ∈ d.A.L → e.slot ≠ x.slot
theorem bkNew_nil (w : World) : Calls Try.prog 11 #[.pointer none] w fun e w' => e = .returned (.tuple #[.pointer none, .int .i64 2]) ∧ w = w' := by
  go_enter Try.func11, Try.ntmps11
  go_wp2_with fail
  go_ret2
  exact ⟨rfl, rfl⟩
set_option maxRecDepth 100000 in
set_option maxHeartbeats 2000000 in
theorem bkNew_some (hB : BW w0 w ρ P gens free D) (hfr : true ∈ free) (hrt : 4 ≤ rt ∧ rt ≤ 5) : Calls Try.prog 11 #[.pointer (some ⟨P.1, 0, none⟩)] w (NewEnd w0 w ρ P gens free D rt) := by
  have hNw := Lib.hid (ANode.gNew (some ⟨P.1, 0, none⟩) [] w)
  go_enter Try.func11, Try.ntmps11
  go_wp2_with fail
  refine hNw.out.mono ?_
  clear hNw
  rintro z w1 ⟨rfl, hb1, hs1, hA1⟩
  obtain ⟨hAr, hU1⟩ := hB.ars.new hB.ro hb1 hs1 (ta := 125) (tc := 130) hA1
  have hB1 : BW w0 w1 _ P gens free _ := ⟨hB.ro.step hU1 (by simp), hAr⟩
  obtain ⟨ρ1, hρ1⟩ : ∃ ρ1, ρ1 = mark (mark ρ (w.heap.size + 1) (11 + 3 * D.length)) w.heap.size (12 + 3 * D.length) := ⟨_, rfl⟩
  rw [← hρ1] at hU1 hB1
  clear hAr hρ1
  replace hs1 := Lib.hid hs1
  obtain ⟨W1, hW1⟩ : ∃ W1, W1 = w1.alloc (.cells #[.pointer (some ⟨P.1, 0, none⟩), .pointer (some ⟨w.heap.size + 1, 0, none⟩), .int .i64 0, .int .u64 0, .int .i64 0, .bool false] 72) := ⟨_, rfl⟩
  have hbA : Below w1.heap.size w1 W1 := by rw [hW1]; exact (Below.refl _ _).alloc (Nat.le_refl _) _
  have htb : W1.heap[w1.heap.size]? = some (.cells #[.pointer (some ⟨P.1, 0, none⟩), .pointer (some ⟨w.heap.size + 1, 0, none⟩), .int .i64 0, .int .u64 0, .int .i64 0, .bool false] 72) := by rw [hW1]; exact heap_alloc_new _ _
  have hU2 : RU [] w1 W1 ρ1 (mark ρ1 w1.heap.size rt) := (RU.below hB1.ro hbA).mark (Nat.le_refl _) (heap_lt htb)
  have hB2 : BW w0 W1 (mark ρ1 w1.heap.size rt) P gens free (D ++ [⟨125, 130, ⟨w.heap.size + 1, w.heap.size, [], 0⟩⟩]) := ⟨hB1.ro.step hU2 (by simp), hB1.ars.ru hU2 (by simp)⟩
  have hT2 : TF W1 (mark ρ1 w1.heap.size rt) P (D ++ [⟨125, 130, ⟨w.heap.size + 1, w.heap.size, [], 0⟩⟩]) rt D.length w1.heap.size ⟨125, 130, ⟨w.heap.size + 1, w.heap.size, [], 0⟩⟩ [] (0, 0) 0 :=
    ⟨by simp, rfl, rfl, hrt, mark_self, htb, (fun x hx => by cases hx), List.nodup_nil, rfl⟩
  have hAl := Lib.hid (TF.alloc hB2 hT2 leaf0 none none none 0 0 0 (leaf0_at _) ⟨fun hn => absurd rfl hn, fun hn => absurd rfl hn, fun hn => absurd rfl hn⟩ hfr)
  have hU12 := Lib.hid (hU1.trans hU2)
  replace htb := Lib.hid htb
  clear hB1 hB2 hT2 hU1 hU2 hA1 hB
  go_wp2_with fail
  rw [← hW1]
  have htl := heap_lt htb.out
  clear hW1
  refine hAl.out.mono ?_
  clear hAl
  rintro z w3 ⟨rfl, ρ3, D3, d3, hB3, hT3, hU3, hda, hsz, _, _, hsd⟩
  obtain ⟨sl, hsl⟩ : ∃ sl : Nat, sl = free.idxOf true := ⟨_, rfl⟩
  obtain ⟨gn, hgn⟩ : ∃ gn : Int, gn = gens.getD sl 0 := ⟨_, rfl⟩
  rw [← hsl, ← hgn] at hT3 ⊢
  have hbA3 : Below w3.heap.size w3 (w3.alloc (.cells #[.int .i64 sl, .int .u64 gn] 70)) := (Below.refl _ _).alloc (Nat.le_refl _) _
  have hB4 := hB3.below hbA3
  have hT4 := hT3.ru (RU.below (rs := []) hB3.ro hbA3) (by simp) (by simp)
  have hU4 := hU3.trans ((RU.below (rs := []) hB3.ro hbA3).mono (by simp))
  have hbx := heap_alloc_new w3 (.cells #[.int .i64 sl, .int .u64 gn] 70)
  replace hsl := Lib.hid hsl
  replace hgn := Lib.hid hgn
  have htl3 : w1.heap.size < w3.heap.size := heap_lt hT3.blk
  clear hbA3 hB3 hT3 hU3
  go_upto_region 5 with fail
  generalize w3.alloc (.cells #[.int .i64 sl, .int .u64 gn] 70) = W4 at *
  have y1 : W4.cell? ⟨w3.heap.size, 0, none⟩ = some (.int .i64 sl) := by rw [cell_of_heap hbx]; rfl
  have y2 : W4.cell? ⟨w3.heap.size, 1, none⟩ = some (.int .u64 gn) := by rw [cell_of_heap hbx]; rfl
  obtain ⟨_, _, j2, j3, _, _, hqt⟩ := hT4.cells
  have ft2 : W4.frozen? ⟨w1.heap.size, 2, none⟩ = false := frozen_of_heap hT4.blk _
  have ft3 : W4.frozen? ⟨w1.heap.size, 3, none⟩ = false := frozen_of_heap hT4.blk _
  have hxl := heap_lt hbx
  have hfin : Hid (NewEnd w0 w ρ P gens free D rt (.returned (.tuple #[.pointer (some ⟨w1.heap.size, 0, none⟩), .int .i64 0])) ((W4.setCell ⟨w1.heap.size, 2, none⟩ (.int .i64 sl)).setCell ⟨w1.heap.size, 3, none⟩ (.int .u64 gn))) := Lib.hid (by
    obtain ⟨hB5, hT5, hU5⟩ := hT4.setRoot hB4 ((sl : Int), gn)
    have hD : D3 = D ++ [d3] := by
      refine List.ext_getElem? fun j => ?_
      by_cases hj : j = D.length
      · subst hj
        rw [hT5.hd]; simp
      · rw [hsd.2.1 j hj]
        rcases Nat.lt_or_ge j D.length with h1 | h1
        · rw [List.getElem?_append_left h1, List.getElem?_append_left h1]
        · rw [List.getElem?_eq_none (by simp; omega), List.getElem?_eq_none (by simp; omega)]
    have hrm : ∀ r, r ∈ [rt] → r ∉ [1, 2, 3, 12 + 3 * D.length] := fun r hr => by simp at hr; subst hr; simp; omega
    refine ⟨w1.heap.size, ρ3, d3, ((sl : Int), gn), rfl, ?_, ?_, ?_, fun j dj e x hj hd he hx => ?_⟩
    rotate_left 3
    · rcases hsd.2.2 d3 x hT5.hd hx with ⟨d0, e0, z1, z2, _⟩ | z
      · simp at z1
        subst z1
        cases z2
      · exact z j dj e hj (by rw [List.getElem?_append_left (List.getElem?_eq_some_iff.1 hd).1]; exact hd) he
    · rw [← hD]; exact hB5
    · rw [← hD]
      exact hT5.tr (Ls := [[(((sl : Int), gn), leaf0)]]) (List.Perm.refl _) ⟨leaf0, rfl⟩ (tower0 _) (thick0 _)
    · have hUa := (hU12.out.mono (rs' := [1, 2, 3, 12 + 3 * D.length]) (by simp)).trans hU4
      refine ⟨hU5.os.trans hUa.os, hU5.tape.trans hUa.tape, hU5.output.trans hUa.output, Nat.le_trans hUa.size hU5.size, fun k hk hn => ?_, fun k hk => (hU5.role k (Nat.lt_of_lt_of_le hk hUa.size)).trans (hUa.role k hk), hU5.far⟩
      have h1 : k ≠ w1.heap.size := by have := hb1.size; omega
      rw [← hUa.block k hk hn]
      exact ((((Upd.refl [w1.heap.size] W4).setCell (p := ⟨w1.heap.size, 2, none⟩) (by simp) _).setCell (p := ⟨w1.heap.size, 3, none⟩) (by simp) _).block k (Nat.lt_of_lt_of_le hk hUa.size) (by simpa using h1)))
  replace hbx := Lib.hid hbx
  replace hT4 := Lib.hid hT4
  replace hB4 := Lib.hid hB4
  go_wp2_with fail
  go_ret2
  exact hfin.out
end
end Go.Proofs.Ytlhobbfncjjeaaa
