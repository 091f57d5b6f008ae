/- A reader's least, below, seek: each ends. Next and Get of a trie, for any reader. -/
import Derived.Test.YtmhlokomlngdmaaGreatArtRs
import Derived.Test.YtmhlokomlngdmaaGreatArtN
namespace Go.Proofs.YtmhlokomlngdmaaGreat
open Go.RowKit
/-- A reader's looks below a handle: a bound. -/
def MU (s : RS) (h : Hd) (N : Nat) : Prop := (s.m ≠ 0 → s.m + 5000 ≤ N) ∧ (s.m = 0 → ∀ n, (h, n) ∈ s.F → (nsub s.F n.path).length ≤ N)
theorem nsub_le (F : AF) (p : Byt) : (nsub F p).length ≤ F.length := List.length_filter_le _ _
section
variable {w0 w w' : World} {r : Hd} {wk : Nat} {rs : List Nat} {St : RS → Bool → World → Prop} {s s1 s2 : RS} {g : Bool}
theorem Rdr.mu (R : Rdr w0 r wk rs St) (hS : St s g w) (h : Hd) : MU s h (s.m + 5000) :=
  ⟨fun _ => Nat.le_refl _, fun _ n _ => by have := nsub_le s.F n.path; have := (R.ok _ _ _ hS).2.2.2.2; omega⟩
theorem mu_kid (R : Rdr w0 r wk rs St) {w1 w2 : World} {g1 g2 : Bool} {h c : Hd} {n : AN} {N : Nat} {b : UInt8} {L1 : KL} (hM : MU s h N) (hst : RStep rs w w1 s s1) (hm : s.m = 0 ∨ s1.m + 1 = s.m) (hn : (h, n) ∈ s1.F) (hS1 : St s1 g1 w1) (hst2 : RStep rs w1 w2 s1 s2) (hS2 : St s2 g2 w2) (hK : s2.K n.nb = some L1) (hmem : (b, c) ∈ L1) : MU s2 c (N - 1) ∧ 1 ≤ N := by
  have m2 := hst2.m
  have o2 := R.ok _ _ _ hS2
  rcases hm with h0 | h1
  · have m1 := hst.m
    obtain ⟨e1, _, _⟩ := hst.same (hst.zero h0)
    obtain ⟨e4, _, e6⟩ := hst2.same (hst2.zero (by omega))
    obtain ⟨ok1, _, kid1, _⟩ := R.ok _ _ _ hS1
    have hk := kid1 _ hn
    rw [e6, hk] at hK
    injection hK with hK
    subst hK
    have hb := hM.2 h0 n (by rw [← e1]; exact hn)
    rw [← e1] at hb
    refine ⟨⟨fun hh => by omega, fun _ m hm => ?_⟩, ?_⟩
    · rw [e4] at hm ⊢
      have := nsub_lt ok1 hn hmem hm
      simp only at this
      omega
    · have : (h, n) ∈ nsub s1.F n.path := mem_nsub.2 ⟨hn, List.prefix_refl _⟩
      have := List.length_pos_of_mem this
      omega
  · have hb := hM.1 (by omega)
    refine ⟨⟨fun _ => by omega, fun _ m _ => ?_⟩, by omega⟩
    have := nsub_le s2.F m.path
    have := o2.2.2.2.2
    omega
theorem size3 (p q : Str) (b : UInt8) : (p ++ q ++ bs [b]).size = p.size + q.size + 1 := by rw [ByteArray.size_append, ByteArray.size_append]; rfl
theorem size2 (p q : Str) : (p ++ q).size = p.size + q.size := ByteArray.size_append
/-- How often is looked at and below a handle, where nothing is done any more. -/
def wkF (F : AF) (h : Hd) : Nat := match F.find? (fun x => decide (x.1 = h)) with | some x => (nsub F x.2.path).length | none => 1
def kWF (F : AF) (L : KL) : Nat := (L.map fun y => wkF F y.2).sum
theorem wkF_some {F : AF} (hn : (F.map (·.1)).Nodup) {x : Hd × AN} (hx : x ∈ F) : wkF F x.1 = (nsub F x.2.path).length := by
  unfold wkF
  cases hf : F.find? (fun y => decide (y.1 = x.1)) with
  | none =>
    have h1 := List.find?_eq_none.1 hf x hx
    simp at h1
  | some y =>
    have h1 : y.1 = x.1 := by simpa using List.find?_some hf
    have := nodup_inj hn (List.mem_of_find?_eq_some hf) hx h1
    rw [this]
theorem wkF_le (F : AF) (h : Hd) : wkF F h ≤ F.length + 1 := by
  unfold wkF
  split
  · exact Nat.le_trans (nsub_le _ _) (Nat.le_succ _)
  · omega
theorem wkF_pos (F : AF) (h : Hd) : 1 ≤ wkF F h := by
  unfold wkF
  split
  · rename_i x hx
    exact List.length_pos_of_mem (mem_nsub.2 ⟨List.mem_of_find?_eq_some hx, List.prefix_refl _⟩)
  · exact Nat.le_refl 1
theorem wkF_node {F : AF} {r : Hd} (h : AOK F r) {x : Hd × AN} (hx : x ∈ F) : wkF F x.1 = 1 + kWF F x.2.kids := by
  rw [wkF_some h.nd hx, nsub_node h hx]
  unfold kWF
  congr 2
  refine List.map_congr_left fun y hy => ?_
  obtain ⟨m, hm, _⟩ := h.dn x hx y hy
  rw [nsub_kid h hx hy hm, wkF_some (x := (y.2, m)) h.nd hm]
theorem kWF_some (F : AF) {L : KL} {i : Nat} {y : UInt8 × Hd} (hs : KSort L) (h : kfrom L i = some y) : kWF F (L.filter fun z => decide (i ≤ z.1.toNat)) = wkF F y.2 + kWF F (L.filter fun z => decide (y.1.toNat + 1 ≤ z.1.toNat)) := by
  rw [(kfrom_some hs h).2.2]
  unfold kWF
  rw [List.map_cons, List.sum_cons]
theorem kWF_zero (F : AF) (L : KL) : kWF F (L.filter fun z => decide (0 ≤ z.1.toNat)) = kWF F L := by
  rw [List.filter_eq_self.2 fun _ _ => by simp]
/-- How many looks there may have been behind a least. -/
def bL (N : Nat) (s : RS) (h : Hd) : Nat := if s.m = 0 then s.k + wkF s.F h else s.k + s.m + (N + 1) * 1048832
theorem bL_zero {N : Nat} {h : Hd} (h0 : s.m = 0) : bL N s h = s.k + wkF s.F h := if_pos h0
theorem bL_more {N : Nat} {h : Hd} (h0 : s.m ≠ 0) : bL N s h = s.k + s.m + (N + 1) * 1048832 := if_neg h0
theorem least_any (R : Rdr w0 r wk rs St) : ∀ (N : Nat) (s : RS) (g : Bool) (w : World) (h : Hd) (path : Str), St s g w → MU s h N → path.size + 700 * N + 700 ≤ big → bL N s h ≤ KM →
    Calls Tryz.prog 82 #[.pointer (some ⟨wk, 0, none⟩), hV h, .string path] w (LeastEnd rs St s g h path (bL N s h) w) := by
  intro N
  induction N using Nat.strongRecOn with
  | ind N ih =>
    intro s g w h path hS hM hz hKM
    have hbig : s.m ≠ 0 → bL N s h = s.k + s.m + (N + 1) * 1048832 := bL_more
    have hone : s.k + 1 ≤ bL N s h := by
      by_cases h0 : s.m = 0
      · rw [bL_zero h0]
        have := wkF_pos s.F h
        omega
      · rw [hbig h0]
        omega
    have hl0 := (R.ok _ _ _ hS).2.2.2.2
    refine least_step R hS h path (by omega) (bL N s h) hone hKM fun s1 g1 w1 n hst hm hk1 hn hS1 => ?_
    obtain ⟨ok1, _, kid1, lim1, len1⟩ := R.ok _ _ _ hS1
    have hps : n.pre.size ≤ 600 := Nat.le_trans (ok1.pre_le hn) (lim1 _ hn)
    refine below_step R hS1 n (kid1 _ hn) (path ++ n.pre) (by have := size2 path n.pre; omega) 0 (by omega) (bL N s h)
      (fun s2 i2 => (s.m = 0 → s2.m = 0 ∧ s2.F = s1.F ∧ s2.K = s1.K ∧ s2.k + kWF s1.F (n.kids.filter fun z => decide (i2 ≤ z.1.toNat)) ≤ bL N s h) ∧ (s.m ≠ 0 → (s2.m ≠ 0 → s2.k + s2.m ≤ s.k + s.m) ∧ s2.k ≤ s.k + s.m + N * 1048832 + i2 * 4097))
      ⟨fun h0 => ?_, fun h0 => ?_⟩ (fun s2 i2 hi2 hI => ?_) (fun s2 g2 w2 b c L1 i1 hst2 hS2 hK hmem hkf hi1 hI => ?_)
    · have m1 := hst.m
      obtain ⟨e1, _, _⟩ := hst.same (hst.zero h0)
      refine ⟨by omega, rfl, rfl, ?_⟩
      have h1 := wkF_node ok1 hn
      simp only at h1
      rw [kWF_zero, bL_zero h0, ← e1]
      omega
    · refine ⟨hst.km, ?_⟩
      omega
    · by_cases h0 : s.m = 0
      · have := (hI.1 h0).2.2.2
        omega
      · have := (hI.2 h0).2
        rw [hbig h0]
        have h3 : i2 * 4097 ≤ 256 * 4097 := Nat.mul_le_mul_right _ hi2
        omega
    · obtain ⟨q1, q2⟩ := mu_kid R hM hst hm hn hS1 hst2 hS2 hK hmem
      obtain ⟨N', rfl⟩ : ∃ N', N = N' + 1 := ⟨N - 1, by omega⟩
      rw [Nat.add_sub_cancel] at q1
      have hl2 := (R.ok _ _ _ hS2).2.2.2.2
      have hw := wkF_le s2.F c
      obtain ⟨B2, hB2⟩ := R.kids _ _ _ _ _ hS2 hK
      obtain ⟨_, hib, _⟩ := kfrom_some hB2.ks hkf
      simp only at hib
      have hb256 := b.toNat_lt
      have hbound : bL N' s2 c ≤ bL (N' + 1) s h := by
        by_cases h0 : s.m = 0
        · obtain ⟨a1, a2, a3, a4⟩ := hI.1 h0
          rw [bL_zero a1]
          have hk : L1 = n.kids := by
            rw [a3, kid1 _ hn] at hK
            injection hK with hK
            exact hK.symm
          rw [hk] at hkf
          have h5 := kWF_some s1.F (ok1.srt _ hn) hkf
          simp only at h5
          rw [a2]
          omega
        · obtain ⟨a1, a2⟩ := hI.2 h0
          rw [hbig h0]
          by_cases h2 : s2.m = 0
          · rw [bL_zero h2]
            have h3 : i1 * 4097 ≤ 255 * 4097 := Nat.mul_le_mul_right _ (by omega)
            omega
          · rw [bL_more h2]
            have := a1 h2
            omega
      refine ⟨bL N' s2 c, fun w3 s3 hst3 hk3 => ⟨fun h0 => ?_, fun h0 => ?_⟩, ?_⟩
      · obtain ⟨a1, a2, a3, a4⟩ := hI.1 h0
        have m3 := hst3.m
        obtain ⟨e1, _, e3⟩ := hst3.same (hst3.zero a1)
        refine ⟨by omega, e1.trans a2, e3.trans a3, ?_⟩
        have hk : L1 = n.kids := by
          rw [a3, kid1 _ hn] at hK
          injection hK with hK
          exact hK.symm
        rw [hk] at hkf
        have h5 := kWF_some s1.F (ok1.srt _ hn) hkf
        simp only at h5
        rw [bL_zero a1, a2] at hk3
        omega
      · obtain ⟨a1, a2⟩ := hI.2 h0
        have h6 : i1 * 4097 ≤ b.toNat * 4097 := Nat.mul_le_mul_right _ hib
        have h7 : (b.toNat + 1) * 4097 = b.toNat * 4097 + 4097 := Nat.succ_mul _ _
        refine ⟨fun h3 => ?_, ?_⟩
        · have m3 := hst3.m
          have := hst3.km h3
          have := a1 (by omega)
          omega
        · by_cases h2 : s2.m = 0
          · rw [bL_zero h2] at hk3
            omega
          · rw [bL_more h2] at hk3
            have := a1 h2
            omega
      · exact ih N' (by omega) s2 g2 w2 c _ hS2 q1 (by have := size3 path n.pre b; omega) (Nat.le_trans hbound hKM)
theorem SeekEnd.mono {h : Hd} {path key : Str} {after : Bool} {X X' : Nat} {e : Ending} (hh : SeekEnd rs St s g h path key after X w e w') (hX : X ≤ X') : SeekEnd rs St s g h path key after X' w e w' := by
  obtain ⟨s', g', f, h1, h2, h3, ⟨h4, h5⟩, h6⟩ := hh
  exact ⟨s', g', f, h1, h2, h3, ⟨h4, Nat.le_trans h5 hX⟩, h6⟩
/-- How many looks there may have been behind a seek. -/
def bS (M N : Nat) (s : RS) : Nat := s.k + s.m + (M + 5001) * 1048832 + N * 1048833 + 1048832
set_option maxRecDepth 100000 in
theorem seek_any (R : Rdr w0 r wk rs St) (key : Str) (after : Bool) (M Z : Nat) (hZ : M + 5001 ≤ Z) : ∀ (N : Nat) (s : RS) (g : Bool) (w : World) (h : Hd) (path : Str), St s g w → s.m ≤ M → MU s h N → path.size + 700 * N + 700 * Z + 700 ≤ big → bS M N s ≤ KM →
    Calls Tryz.prog 59 #[.pointer (some ⟨wk, 0, none⟩), hV h, .string path, .string key, .bool after] w (SeekEnd rs St s g h path key after (bS M N s) w) := by
  intro N
  induction N using Nat.strongRecOn with
  | ind N ih =>
    intro s g w h path hS hsM hM hz hKM
    obtain ⟨E, hE⟩ : ∃ E, E = (M + 5001) * 1048832 := ⟨_, rfl⟩
    have hbS : ∀ n (s' : RS), bS M n s' = s'.k + s'.m + E + n * 1048833 + 1048832 := fun n s' => by unfold bS; rw [hE]
    have hE1 : 1048832 ≤ E := by rw [hE]; omega
    rw [hbS] at hKM
    have hXe := hbS N s
    refine seek_step R hS h path key after (by omega) (s.k + s.m + E + N * 1048833) (bS M N s) (by omega) (by omega) (by omega) (fun s1 g1 w1 n b c hst hm hk1 hn hS1 hmem => ?_) (fun s1 g1 w1 n i hst hm hk1 hn hK hps hS1 hi => ?_)
    · obtain ⟨ok1, _, kid1, lim1, _⟩ := R.ok _ _ _ hS1
      have hps : n.pre.size ≤ 600 := Nat.le_trans (ok1.pre_le hn) (lim1 _ hn)
      obtain ⟨q1, q2⟩ := mu_kid R hM hst hm hn hS1 (R.stepB hS1 (Below.refl _ _)) hS1 (kid1 _ hn) hmem
      have m1 := hst.m
      obtain ⟨N', rfl⟩ : ∃ N', N = N' + 1 := ⟨N - 1, by omega⟩
      rw [Nat.add_sub_cancel] at q1
      have hle : bS M N' s1 ≤ s.k + s.m + E + (N' + 1) * 1048833 := by
        rw [hbS]
        omega
      exact (ih N' (by omega) s1 g1 w1 c _ hS1 (by omega) q1 (by have := size3 path n.pre b; omega) (by omega)).mono fun e w' he => he.mono hle
    · obtain ⟨L, hL⟩ := Option.isSome_iff_exists.1 hK
      have m1 := hst.m
      have l1 := (R.ok _ _ _ hS1).2.2.2.2
      refine below_step R hS1 n hL (path ++ n.pre) (by have := size2 path n.pre; omega) i hi (bS M N s)
        (fun s2 i2 => (s2.m ≠ 0 → s2.k + s2.m ≤ s.k + s.m) ∧ s2.k ≤ s.k + s.m + E + N * 1048833 + i2 * 4097 ∧ s2.m ≤ s.m) ⟨hst.km, by omega, m1⟩ (fun s2 i2 hi2 hI => ?_) fun s2 g2 w2 b c L1 i1 hst2 hS2 hK hmem hkf hi1 hI => ?_
      · have := hI.2.1
        have h3 : i2 * 4097 ≤ 256 * 4097 := Nat.mul_le_mul_right _ hi2
        omega
      · have m2 := hst2.m
        have h3 := size3 path n.pre b
        have hl2 := (R.ok _ _ _ hS2).2.2.2.2
        have hw := wkF_le s2.F c
        obtain ⟨B2, hB2⟩ := R.kids _ _ _ _ _ hS2 hK
        obtain ⟨_, hib, _⟩ := kfrom_some hB2.ks hkf
        simp only at hib
        have hb256 := b.toNat_lt
        have h6 : i1 * 4097 ≤ b.toNat * 4097 := Nat.mul_le_mul_right _ hib
        have h7 : (b.toNat + 1) * 4097 = b.toNat * 4097 + 4097 := Nat.succ_mul _ _
        have h8 : b.toNat * 4097 ≤ 255 * 4097 := Nat.mul_le_mul_right _ (by omega)
        obtain ⟨a1, a2, a3⟩ := hI
        have hbound : bL (s2.m + 5000) s2 c ≤ s.k + s.m + E + N * 1048833 + (b.toNat + 1) * 4097 := by
          by_cases h2 : s2.m = 0
          · rw [bL_zero h2]
            omega
          · rw [bL_more h2]
            have h9 : (s2.m + 5000 + 1) * 1048832 ≤ (M + 5001) * 1048832 := Nat.mul_le_mul_right _ (by omega)
            have := a1 h2
            omega
        refine ⟨bL (s2.m + 5000) s2 c, fun w3 s3 hst3 hk3 => ⟨fun h4 => ?_, Nat.le_trans hk3 hbound, Nat.le_trans hst3.m a3⟩, ?_⟩
        · have m3 := hst3.m
          have := hst3.km h4
          have := a1 (by omega)
          omega
        · have hq : path.size + n.pre.size + 1 + 700 * (s2.m + 5000) + 700 ≤ big := by
            obtain ⟨N', hN⟩ : ∃ N', N' = s2.m + 5000 := ⟨_, rfl⟩
            rw [← hN]
            omega
          exact least_any R (s2.m + 5000) s2 g2 w2 c _ hS2 (R.mu hS2 c) (by rw [h3]; exact hq) (by omega)
end
end Go.Proofs.YtmhlokomlngdmaaGreat
namespace Go.Proofs.YtmhlokomlngdmaaGreat
open Go.RowKit
theorem out_ok {w : World} {t : Nat} {a : Addr} (h1 : w.cell? ⟨t, 1, none⟩ = some (.pointer (some a))) {b : Bool} (h5 : w.cell? ⟨t, 5, none⟩ = some (.bool b)) : Calls Tryz.prog 39 #[.pointer (some ⟨t, 0, none⟩)] w fun e w' => e = .returned (.bool b) ∧ w = w' := by
  go_enter Tryz.func39, Tryz.ntmps39
  go_wp2_with fail
  go_ret
  exact ⟨rfl, rfl⟩
theorem out_nil (w : World) : Calls Tryz.prog 39 #[.pointer none] w fun e w' => e = .returned (.bool true) ∧ w = w' := by
  go_enter Tryz.func39, Tryz.ntmps39
  go_wp2_with fail
  go_ret
  exact ⟨rfl, rfl⟩
section
variable {w0 w w' : World} {r : Hd} {rs : List Nat} {St : RS → Bool → World → Prop} {s s1 s2 : RS} {g : Bool}
def NextEnd (rs : List Nat) (St : RS → Bool → World → Prop) (s : RS) (key : Str) (after : Bool) (wA : World) (e : Ending) (w' : World) : Prop :=
  ∃ (s' : RS) (g' : Bool) (f : Option (Str × Str)) (again : Bool), e = .returned (.tuple #[.string (fK f), .string (fX f), .bool f.isSome, .bool again]) ∧ St s' g' w' ∧ RStep rs wA w' s s' ∧ s'.k ≤ bS 100000 (s.m + 5000) s ∧ (s'.d = s.d → again = false ∧ f = cnext s.C key after)
theorem drew_bel (w : World) : Below w.heap.size w w.drew := ⟨rfl, rfl, rfl, Nat.le_refl _, fun _ _ => rfl⟩
set_option maxRecDepth 100000 in
set_option maxHeartbeats 1000000 in
theorem next_gen {t a : Nat} {vv : Value} (hv : vv = .nilFunc ∨ ∃ f x y, vv = .func f x y) (c1 : w.cell? ⟨t, 1, none⟩ = some (.pointer (some ⟨a, 0, none⟩))) (c2 : w.cell? ⟨t, 2, none⟩ = some (.int .i64 r.1)) (c3 : w.cell? ⟨t, 3, none⟩ = some (.int .u64 r.2)) (c5 : w.cell? ⟨t, 5, none⟩ = some (.bool false)) (hq : t < w.heap.size)
    (R : Rdr w0 r w.heap.size rs St) (hS : St s false (w.alloc (.cells #[.pointer (some ⟨a, 0, none⟩), vv, .bool false] 117))) (hm : s.m ≤ 100000) (hKM : bS 100000 (s.m + 5000) s ≤ KM) (key : Str) (after : Bool) :
    Calls Tryz.prog 27 #[.pointer (some ⟨t, 0, none⟩), .string key, .bool after, vv] w (NextEnd rs St s key after (w.alloc (.cells #[.pointer (some ⟨a, 0, none⟩), vv, .bool false] 117))) := by
  obtain ⟨wA, hwA⟩ : ∃ wA, wA = w.alloc (.cells #[.pointer (some ⟨a, 0, none⟩), vv, .bool false] 117) := ⟨_, rfl⟩
  rw [← hwA] at hS ⊢
  rcases hv with rfl | ⟨vf, vx, vy, rfl⟩
  all_goals
    have hO := Lib.hid (out_ok c1 c5)
    have hA : Below w.heap.size w wA := by rw [hwA]; exact (Below.refl _ _).alloc (Nat.le_refl _) _
    have hSk := seek_any R key after 100000 200000 (by decide) (s.m + 5000) s false _ r s0 hS hm (R.mu hS r) (by
      show 0 + 700 * (s.m + 5000) + 700 * 200000 + 700 ≤ 1125899906842624
      have : 700 * (s.m + 5000) ≤ 700 * 105000 := Nat.mul_le_mul_left _ (by omega)
      have h2 : 700 * 105000 = 73500000 := by decide
      have h3 : 700 * 200000 = 140000000 := by decide
      omega) hKM
    have d2 := keep hA c2
    have d3 := keep hA c3
    have hqa : t < wA.heap.size := Nat.lt_of_lt_of_le hq hA.size
    go_enter Tryz.func27, Tryz.ntmps27
    go_wp2_with fail
    refine hO.out.mono ?_
    clear hO
    rintro e w1 ⟨rfl, rfl⟩
    go_upto_region 4 with fail
    rw [← hwA]
    replace hwA := Lib.hid hwA
    replace hA := Lib.hid hA
    replace hS := Lib.hid hS
    clear c1 c2 c3 c5
    go_wp2_with fail
    refine hSk.mono ?_
    clear hSk
    rintro e w2 ⟨s2, g2, f, rfl, hS2, hst2, ⟨_, hk2⟩, hex⟩
    replace hk2 := Lib.hid hk2
    have hexact : Hid (s2.d = s.d → g2 = false ∧ f = cnext s.C key after) := Lib.hid fun hd => by
      obtain ⟨ok, _⟩ := R.ok _ _ _ hS.out
      obtain ⟨n, h1, h2, h3⟩ := ok.root
      obtain ⟨x1, x2⟩ := hex hd rfl n h1 (by rw [h2, h3]; rfl)
      refine ⟨x1, ?_⟩
      rw [x2, h2, sub_nil]
    clear hex
    have hB2 : Below w2.heap.size w2 (w2.alloc (.cells #[.string (fK f), .string (fX f), .bool f.isSome] 121)) := (Below.refl _ _).alloc (Nat.le_refl _) _
    have hS3 := R.bel hS2 hB2
    have hst3 := hst2.trans (R.stepB hS2 hB2)
    have hF := heap_alloc_new w2 (.cells #[.string (fK f), .string (fX f), .bool f.isSome] 121)
    unfold fV
    go_upto_region 5 with fail
    generalize w2.alloc (.cells #[.string (fK f), .string (fX f), .bool f.isSome] 121) = w3 at *
    obtain ⟨f0, f1, f2, fq, ff⟩ := cells3 hF
    have hag := (R.again _ _ _ hS3).1
    have hwk := (R.again _ _ _ hS3).2
    replace hS3 := Lib.hid hS3
    replace hst3 := Lib.hid hst3
    clear hF hB2 hS2 hst2
    cases g2 with
    | true =>
      go_wp2_with fail
      go_quiet (fail)
      go_wp2_with fail
      refine bodyPost_ret (v := .tuple #[.string ⟨#[]⟩, .string ⟨#[]⟩, .bool false, .bool true]) (by simp [results, Tryz.results27, go_sem, fK, fX]) rfl ?_
      refine ⟨s2, true, none, true, rfl, R.bel hS3.out (below_drewN (Below.refl _ _) _), hst3.out.trans (R.stepB hS3.out (below_drewN (Below.refl _ _) _)), hk2.out, fun hd => ?_⟩
      have := (hexact.out hd).1
      cases this
    | false =>
      cases f with
      | none =>
        simp only [Option.isSome_none] at f2
        go_wp2_with fail
        go_quiet (fail)
        go_wp2_with fail
        refine bodyPost_ret (v := .tuple #[.string ⟨#[]⟩, .string ⟨#[]⟩, .bool false, .bool false]) (by simp [results, Tryz.results27, go_sem, fK, fX]) rfl ?_
        exact ⟨s2, false, none, false, rfl, R.bel hS3.out (below_drewN (Below.refl _ _) _), hst3.out.trans (R.stepB hS3.out (below_drewN (Below.refl _ _) _)), hk2.out, fun hd => ⟨rfl, (hexact.out hd).2⟩⟩
      | some x =>
        simp only [Option.isSome_some] at f2
        go_wp2_with fail
        go_quiet (fail)
        go_wp2_with fail
        refine bodyPost_ret (v := .tuple #[.string x.1, .string x.2, .bool true, .bool false]) (by simp [results, Tryz.results27, go_sem, fK, fX]) rfl ?_
        exact ⟨s2, false, some x, false, rfl, R.bel hS3.out (below_drewN (Below.refl _ _) _), hst3.out.trans (R.stepB hS3.out (below_drewN (Below.refl _ _) _)), hk2.out, fun hd => ⟨rfl, (hexact.out hd).2⟩⟩
def GetEnd (rs : List Nat) (St : RS → Bool → World → Prop) (s : RS) (key : Str) (wA : World) (e : Ending) (w' : World) : Prop :=
  ∃ (s' : RS) (g' : Bool) (v : Str) (found again : Bool), e = .returned (.tuple #[.string v, .bool found, .bool again]) ∧ St s' g' w' ∧ RStep rs wA w' s s' ∧ (s.k + 1 ≤ s'.k ∧ s'.k ≤ s.k + key.size + 1) ∧ (s'.d = s.d → again = false ∧ v = (cget s.C key).getD s0 ∧ found = (cget s.C key).isSome)
structure GInv (w0 : World) (rs : List Nat) (St : RS → Bool → World → Prop) (s : RS) (wA : World) (key : Str) (wr : World) (s1 : RS) (g1 : Bool) (h : Hd) (HB : Nat) (k1 : Str) : Prop where
  st : RStep rs wA wr s s1
  hS : St s1 g1 wr
  hb : Box wA s1 wr HB (.cells #[.int .i64 h.1, .int .u64 h.2] 77)
  ex : s1.d = s.d → ∃ n q, (h, n) ∈ s.F ∧ n.path = q ++ bl n.pre ∧ bl key = q ++ bl k1 ∧ ∀ x, x ∈ s.F → q <+: x.2.path → n.path <+: x.2.path
  ck : s1.k + k1.size ≤ s.k + key.size
theorem str_eq0 (x : Str) : (ByteArray.toList x).isEmpty = decide (bl x = []) := by
  rw [ByteArray.toList_eq]
  show (bl x).isEmpty = _
  cases bl x <;> rfl
theorem res_get {W : World} (tmps : Array Value) (a b c : Value) (h6 : tmps[6]? = some a) (h7 : tmps[7]? = some b) (h8 : tmps[8]? = some c) : (results Tryz.f26 tmps).run Tryz.prog W = .ok (.tuple #[a, b, c]) W := by
  simp [results, Tryz.results26, go_sem, h6, h7, h8]
set_option maxRecDepth 100000 in
set_option maxHeartbeats 2000000 in
theorem get_gen {t a : Nat} {vv : Value} (hv : vv = .nilFunc ∨ ∃ f x y, vv = .func f x y) (c1 : w.cell? ⟨t, 1, none⟩ = some (.pointer (some ⟨a, 0, none⟩))) (c2 : w.cell? ⟨t, 2, none⟩ = some (.int .i64 r.1)) (c3 : w.cell? ⟨t, 3, none⟩ = some (.int .u64 r.2)) (c5 : w.cell? ⟨t, 5, none⟩ = some (.bool false)) (hq : t < w.heap.size)
    (R : Rdr w0 r w.heap.size rs St) (hS : St s false (w.alloc (.cells #[.pointer (some ⟨a, 0, none⟩), vv, .bool false] 117))) (key : Str) (hk : key.size ≤ big) (hKM : s.k + key.size + 1 ≤ KM) :
    Calls Tryz.prog 26 #[.pointer (some ⟨t, 0, none⟩), .string key, vv] w (GetEnd rs St s key (w.alloc (.cells #[.pointer (some ⟨a, 0, none⟩), vv, .bool false] 117))) := by
  have hO := Lib.hid (out_ok c1 c5)
  obtain ⟨wA, hwA⟩ : ∃ wA, wA = w.alloc (.cells #[.pointer (some ⟨a, 0, none⟩), vv, .bool false] 117) := ⟨_, rfl⟩
  rw [← hwA] at hS ⊢
  have hA : Below w.heap.size w wA := by rw [hwA]; exact (Below.refl _ _).alloc (Nat.le_refl _) _
  have d2 := keep hA c2
  have d3 := keep hA c3
  have hqa : t < wA.heap.size := Nat.lt_of_lt_of_le hq hA.size
  have hroot : GInv w0 rs St s wA key (wA.alloc (.cells #[.int .i64 r.1, .int .u64 r.2] 77)) s false r wA.heap.size key := by
    have hB := (Below.refl wA.heap.size wA).alloc (Nat.le_refl _) (.cells #[.int .i64 r.1, .int .u64 r.2] 77)
    refine ⟨R.stepB hS hB, R.bel hS hB, Box.new (w0 := w0) _ (Nat.le_refl _) (R.ro _ _ _ hS), fun _ => ?_, Nat.le_refl _⟩
    obtain ⟨n, h1, h2, h3⟩ := (R.ok _ _ _ hS).1.root
    exact ⟨n, [], h1, by rw [h2, h3]; rfl, rfl, fun x _ _ => by rw [h2]; exact List.nil_prefix⟩
  replace hroot := Lib.hid hroot
  rcases hv with rfl | ⟨vf, vx, vy, rfl⟩
  all_goals
    go_enter Tryz.func26, Tryz.ntmps26
    go_wp2_with fail
    refine hO.out.mono ?_
    clear hO
    rintro e w1 ⟨rfl, rfl⟩
    go_upto_region 4 with fail
    rw [← hwA]
    replace hwA := Lib.hid hwA
    replace hA := Lib.hid hA
    replace hS := Lib.hid hS
    clear c1 c2 c3 c5
    go_upto_region 5 with fail
    go_loopg [1, 10] (key.size + 1) (fun gk v1 v10 wr => ∃ (k1 : Str) (HB : Nat) (s1 : RS) (g1 : Bool) (h : Hd), gk = k1.size + 1 ∧ v1 = .string k1 ∧ v10 = .pointer (some ⟨HB, 0, none⟩) ∧ k1.size ≤ big ∧ GInv w0 rs St s wA key wr s1 g1 h HB k1)
    case atStart => exact ⟨key, _, s, false, r, rfl, rfl, rfl, hk, hroot.out⟩
    case round =>
      clear hroot
      obtain ⟨k1, HB, s1, g1, h, rfl, rfl, rfl, hk1, hI⟩ := hrel
      obtain ⟨h0, h1, hq1, hf1⟩ := cells2 hI.hb.cel
      have hck := hI.ck
      have hsk := hI.st.k
      have hN := R.node s1 g1 wr h hI.hS (by omega)
      replace hI := Lib.hid hI
      go_wp2_with fail
      refine hN.mono ?_
      clear hN
      rintro e w2 ⟨s2, hst2, ⟨hm2, hk2⟩, ⟨n, hn, rfl, hS2⟩ | ⟨hn, rfl, hS2⟩⟩
      · have hex : Hid (s2.d = s.d → s2.F = s.F ∧ s2.C = s.C ∧ s2.K = s.K ∧ ∃ q, (h, n) ∈ s.F ∧ n.path = q ++ bl n.pre ∧ bl key = q ++ bl k1 ∧ ∀ x, x ∈ s.F → q <+: x.2.path → n.path <+: x.2.path) := Lib.hid fun hd => by
          obtain ⟨o1, o2⟩ := d_eq hI.out.st.d hst2.d hd
          obtain ⟨a1, a2, a3⟩ := hst2.same o2
          obtain ⟨b1, b2, b3⟩ := hI.out.st.same o1
          obtain ⟨m, q, m1, m2, m3, m4⟩ := hI.out.ex o1
          have hnn := hn
          rw [a1, b1] at hnn
          have := nodup_inj (R.ok _ _ _ hS.out).1.nd m1 hnn rfl
          injection this with _ this
          subst this
          exact ⟨a1.trans b1, a2.trans b2, a3.trans b3, q, hnn, m2, m3, m4⟩
        have hA3 : Below w2.heap.size w2 (w2.alloc (.cells #[.string n.pre, .string (n.val.getD s0), .bool n.val.isSome, .pointer (some ⟨n.nb, 0, none⟩)] 75)) := (Below.refl _ _).alloc (Nat.le_refl _) _
        have hnb := Box.new (s := s2) (w := w2) (wb := wA) (.cells #[.string n.pre, .string (n.val.getD s0), .bool n.val.isSome, .pointer (some ⟨n.nb, 0, none⟩)] 75) (Nat.le_trans hI.out.st.ru.size hst2.ru.size) (R.ro _ _ _ hS2)
        have hhb := (hI.out.hb.step R.h0 hst2).bel hA3
        have hS3 := R.bel hS2 hA3
        have hst3 := (hI.out.st.trans hst2).trans (R.stepB hS2 hA3)
        have hkid := (R.ok _ _ _ hS2).2.2.1 _ hn
        unfold nV
        go_upto_region 6 with fail
        generalize w2.alloc (.cells #[.string n.pre, .string (n.val.getD s0), .bool n.val.isSome, .pointer (some ⟨n.nb, 0, none⟩)] 75) = w3 at *
        obtain ⟨n0, n1, n2, n3, nq, nf⟩ := cells4 hnb.cel
        obtain ⟨b0, b1, bq, bf⟩ := cells2 hhb.cel
        have hCP := cutPrefix_any k1 n.pre w3
        replace hnb := Lib.hid hnb
        replace hhb := Lib.hid hhb
        replace hS3 := Lib.hid hS3
        replace hst3 := Lib.hid hst3
        replace hkid := Lib.hid hkid
        replace hm2 := Lib.hid hm2
        replace hst2 := Lib.hid hst2
        clear h0 h1 hq1 hf1 hA3 hS2
        go_wp2_with fail
        refine hCP.mono ?_
        clear hCP
        rintro e w4 ⟨⟨tt, htt, rfl⟩ | ⟨hno, rfl⟩, rfl⟩
        · by_cases hte : bl tt = []
          · have hq0 : (ByteArray.toList tt).isEmpty = true := by rw [str_eq0]; exact decide_eq_true hte
            have hfin : Hid (s2.d = s.d → False = False ∧ n.val.getD s0 = (cget s.C key).getD s0 ∧ n.val.isSome = (cget s.C key).isSome) := Lib.hid fun hd => by
              obtain ⟨_, _, _, q, m1, m2, m3, _⟩ := hex.out hd
              obtain ⟨ok, ct, _⟩ := R.ok _ _ _ hS.out
              have := ct.get_at ok m1 (k := key) (by rw [m3, m2, htt, hte]; simp)
              rw [this]
              exact ⟨rfl, rfl, rfl⟩
            replace htt := Lib.hid htt
            replace hte := Lib.hid hte
            obtain ⟨nv, hnv⟩ : ∃ nv, nv = n.val.getD s0 := ⟨_, rfl⟩
            obtain ⟨nh, hnh⟩ : ∃ nh, nh = n.val.isSome := ⟨_, rfl⟩
            rw [← hnv] at n1 hfin
            rw [← hnh] at n2 hfin
            replace hnv := Lib.hid hnv
            replace hnh := Lib.hid hnh
            go_wp2_with fail
            go_quiet (fail)
            go_wp2_with (refine bodyPost_ret (res_get _ (.string nv) (.bool nh) (.bool false) ?_ ?_ ?_) rfl (Hid.out ?_); iterate 3 simp only [List.getElem?_toArray, List.getElem?_cons_succ, List.getElem?_cons_zero])
            refine Lib.hid ⟨s2, g1, nv, nh, false, rfl, R.bel hS3.out (below_drewN (Below.refl _ _) _), hst3.out.trans (R.stepB hS3.out (below_drewN (Below.refl _ _) _)), ⟨by omega, by omega⟩, fun hd => ⟨rfl, (hfin.out hd).2⟩⟩
          · obtain ⟨b, tl, hbt⟩ : ∃ b tl, bl tt = b :: tl := by
              cases hh : bl tt with
              | nil => exact absurd hh hte
              | cons b tl => exact ⟨b, tl, rfl⟩
            have hq0 : (ByteArray.toList tt).isEmpty = false := by rw [str_eq0]; exact decide_eq_false hte
            have hsz := bl_size tt
            rw [hbt, List.length_cons] at hsz
            have ga : ∀ W, (Instr.index 9 (.string tt) (.int .i64 0)).run Tryz.prog W = .ok (.int .u8 b.toNat) W := fun W => index_at (q := []) hbt rfl W
            obtain ⟨t1, ht1⟩ : ∃ t1, t1 = bs tl := ⟨_, rfl⟩
            have hsl : ∀ W, (Instr.slice 9 (.string tt) (some (.int .i64 1)) none none).run Tryz.prog W = .ok (.string t1) W := fun W => by
              rw [run_slice_string_l (t := 9) (s := tt) (ht := Tryz.underlying9) W .i64 1 (by omega) (by omega)]
              congr 2
              rw [ht1]
              apply bl_inj
              rw [bl_bs]
              show (tt.extract 1 tt.size).data.toList = tl
              rw [ByteArray.data_extract, Array.toList_extract]
              show (bl tt).extract 1 tt.size = tl
              rw [hbt, List.extract_eq_take_drop, ← hsz]
              simp
            have ht1z : t1.size + 1 = tt.size := by rw [← hsz, ht1]; rfl
            have hkz : tt.size + n.pre.size = k1.size := by
              have h1 := congrArg List.length htt
              rw [List.length_append, bl_size, bl_size, bl_size] at h1
              omega
            obtain ⟨gh, hgh⟩ : ∃ gh, gh = (kget n.kids b).getD (0, 0) := ⟨_, rfl⟩
            obtain ⟨gf, hgf⟩ : ∃ gf, gf = (kget n.kids b).isSome := ⟨_, rfl⟩
            have hG : ∀ W, Below w3.heap.size w3 W → Calls Tryz.prog 46 #[.pointer (some ⟨n.nb, 0, none⟩), .int .u8 b.toNat] W fun e w' => e = .returned (.tuple #[hV gh, .bool gf]) ∧ Below W.heap.size W w' := fun W hW => by
              obtain ⟨B, hB⟩ := R.kids _ _ _ _ _ (R.bel hS3.out hW) hkid.out
              rw [hgh, hgf]
              exact anGet_any hB b
            replace hG := Lib.hid hG
            replace hgh := Lib.hid hgh
            replace hgf := Lib.hid hgf
            replace htt := Lib.hid htt
            replace hte := Lib.hid hte
            replace hbt := Lib.hid hbt
            replace ht1 := Lib.hid ht1
            replace hsz := Lib.hid hsz
            replace ht1z := Lib.hid ht1z
            replace hkz := Lib.hid hkz
            go_upto_region 13 with fail
            go_cut [12] (fun v12 wz => v12 = .bool gf ∧ wz.heap[HB]? = some (.cells #[.int .i64 gh.1, .int .u64 gh.2] 77) ∧ Upd [HB] w3 wz)
            case first =>
              have hne := World.new_ne w3 _ n3
              have hnh : ¬ w2.heap.size = HB := fun e => by have := heap_lt hI.out.hb.cel; have := hst2.out.ru.size; omega
              go_region_held3 (fun W => W.cell? ⟨w2.heap.size, 3, none⟩ = some (.pointer (some ⟨n.nb, 0, none⟩))) (first | exact n3 | exact i3 | exact i4 | go_keep) (first
                | (go_at_call 46; refine (hG.out _ bel_dw).mono ?_; rintro e w5 ⟨rfl, hb5⟩; have hbw := bel_dr (k := 1) hb5; have i3 := keep hbw n3; have hh5 := Below.heap' hbw hhb.out.cel; obtain ⟨j0, j1, jq, jf⟩ := cells2 hh5; have hst5 := hd_stored hh5 (.int .i64 gh.1) (.int .u64 gh.2); have i4 := hst5.2.cell i3 (fun hm => hnh (List.mem_singleton.1 hm)); replace hst5 := Lib.hid hst5; replace hbw := Lib.hid hbw; replace hb5 := Lib.hid hb5; replace hh5 := Lib.hid hh5))
              all_goals
                go_wp2_with fail
                go_meet
                exact ⟨rfl, hst5.out.1, (Upd.of_below hbw.out).trans hst5.out.2⟩
            case rest =>
              obtain ⟨rfl, hHB, hUp⟩ := hcut
              have hS5 := R.wr _ _ _ _ [HB] hS3.out hUp (by simp; exact ⟨Nat.le_trans (R.ro _ _ _ hS.out).bel.size hhb.out.old, hhb.out.rol⟩)
              have hst5 := hst3.out.own hUp (by simp; exact hhb.out.old) R hS3.out
              obtain ⟨j0, j1, jq, jf⟩ := cells2 hHB
              replace hS5 := Lib.hid hS5
              replace hst5 := Lib.hid hst5
              replace hUp := Lib.hid hUp
              replace hHB := Lib.hid hHB
              clear n0 n1 n2 n3 nq nf b0 b1 bq bf hG
              obtain ⟨wd, hwd⟩ : ∃ wd, wd = wc := ⟨_, rfl⟩
              subst hwd
              cases gf with
              | false =>
                have hfin : Hid (s2.d = s.d → s0 = (cget s.C key).getD s0 ∧ false = (cget s.C key).isSome) := Lib.hid fun hd => by
                  obtain ⟨_, _, _, q, m1, m2, m3, m4⟩ := hex.out hd
                  obtain ⟨ok, ct, _⟩ := R.ok _ _ _ hS.out
                  have hp : bl key = n.path ++ b :: tl := by rw [m3, m2, htt.out, hbt.out]; simp
                  have hkn : kget n.kids b = none := by
                    have := hgf.out
                    cases hk : kget n.kids b with
                    | none => rfl
                    | some z => rw [hk] at this; cases this
                  have := ct.get_none (k := key) (fun x hx he => by
                    rcases ok.under m1 hx (by rw [he, hp]; exact ⟨_, rfl⟩) with rfl | ⟨y, y1, m, y2, y3, y4⟩
                    · rw [hp] at he
                      have := congrArg List.length he
                      simp at this
                    · rw [he, hp, y3] at y4
                      have h5 := (List.prefix_append_right_inj _).1 y4
                      obtain ⟨h6, _⟩ := List.cons_prefix_cons.1 h5
                      exact kget_none_iff.1 hkn y y1 h6)
                  rw [this]
                  exact ⟨rfl, rfl⟩
                go_wp2_with (refine bodyPost_ret (res_get _ (.string ⟨#[]⟩) (.bool false) (.bool false) ?_ ?_ ?_) rfl (Hid.out ?_); iterate 3 simp only [List.getElem?_toArray, List.getElem?_cons_succ, List.getElem?_cons_zero])
                refine Lib.hid ⟨s2, g1, s0, false, false, rfl, hS5.out, hst5.out, ⟨by omega, by omega⟩, fun hd => ⟨rfl, hfin.out hd⟩⟩
              | true =>
                have hkn : kget n.kids b = some gh := by
                  have h1 := hgf.out
                  have h2 := hgh.out
                  cases hk : kget n.kids b with
                  | none => rw [hk] at h1; cases h1
                  | some z => rw [hk] at h2; rw [h2]; rfl
                have hA6 : Below wd.heap.size wd (wd.alloc (.cells #[.int .i64 gh.1, .int .u64 gh.2] 77)) := (Below.refl _ _).alloc (Nat.le_refl _) _
                have hinv : GInv w0 rs St s wA key (wd.alloc (.cells #[.int .i64 gh.1, .int .u64 gh.2] 77)) s2 g1 gh wd.heap.size t1 :=
                  ⟨hst5.out.trans (R.stepB hS5.out hA6), R.bel hS5.out hA6, Box.new (w0 := w0) _ hst5.out.ru.size (R.ro _ _ _ hS5.out), fun hd => by
                    obtain ⟨_, _, _, q, m1, m2, m3, m4⟩ := hex.out hd
                    obtain ⟨ok, ct, _⟩ := R.ok _ _ _ hS.out
                    have hmem : (b, gh) ∈ n.kids := (kget_iff (ok.srt _ m1)).1 hkn
                    obtain ⟨m, x1, x2⟩ := ok.dn _ m1 _ hmem
                    refine ⟨m, n.path ++ [b], x1, by rw [x2]; simp, by rw [m3, m2, htt.out, hbt.out, ht1.out, bl_bs]; simp, fun x hx hp => ok.via m1 hx hmem x1 hp⟩, by have := ht1z.out; have := hkz.out; omega⟩
                replace hinv := Lib.hid hinv
                have hms : t1.size + 1 < k1.size + 1 := by have := ht1z.out; have := hkz.out; omega
                have hbz : t1.size ≤ big := by omega
                clear hA6
                go_wp2_with fail
                go_roundg (t1.size + 1)
                case rel => exact ⟨t1, wd.heap.size, s2, g1, gh, rfl, rfl, rfl, hbz, hinv.out⟩
                case measure => exact hms
        · have hfin : Hid (s2.d = s.d → s0 = (cget s.C key).getD s0 ∧ false = (cget s.C key).isSome) := Lib.hid fun hd => by
            obtain ⟨_, _, _, q, m1, m2, m3, m4⟩ := hex.out hd
            obtain ⟨ok, ct, _⟩ := R.ok _ _ _ hS.out
            have := ct.get_none (k := key) (fun x hx he => hno (by
              have h5 := m4 x hx (by rw [he, m3]; exact ⟨_, rfl⟩)
              rw [he, m2, m3] at h5
              exact (List.prefix_append_right_inj q).1 h5))
            rw [this]
            exact ⟨rfl, rfl⟩
          clear hno
          go_wp2_with (refine bodyPost_ret (res_get _ (.string ⟨#[]⟩) (.bool false) (.bool false) ?_ ?_ ?_) rfl (Hid.out ?_); iterate 3 simp only [List.getElem?_toArray, List.getElem?_cons_succ, List.getElem?_cons_zero])
          refine Lib.hid ⟨s2, g1, s0, false, false, rfl, hS3.out, hst3.out, ⟨by omega, by omega⟩, fun hd => ⟨rfl, hfin.out hd⟩⟩
      · have hA3 : Below w2.heap.size w2 (w2.alloc (.cells #[.string ⟨#[]⟩, .string ⟨#[]⟩, .bool false, .pointer none] 75)) := (Below.refl _ _).alloc (Nat.le_refl _) _
        have hfin : Hid (s2.d = s.d → False) := Lib.hid fun hd => by
          obtain ⟨o1, o2⟩ := d_eq hI.out.st.d hst2.d hd
          obtain ⟨a1, _⟩ := hst2.same o2
          obtain ⟨b1, _⟩ := hI.out.st.same o1
          obtain ⟨m, q, m1, _⟩ := hI.out.ex o1
          exact hn _ (by rw [a1, b1]; exact m1) rfl
        have hS3 := R.bel hS2 hA3
        have hst3 := (hI.out.st.trans hst2).trans (R.stepB hS2 hA3)
        go_upto_region 6 with fail
        generalize w2.alloc (.cells #[.string ⟨#[]⟩, .string ⟨#[]⟩, .bool false, .pointer none] 75) = w3 at *
        replace hS3 := Lib.hid hS3
        replace hst3 := Lib.hid hst3
        replace hm2 := Lib.hid hm2
        replace hst2 := Lib.hid hst2
        clear h0 h1 hq1 hf1 hA3 hS2 hn
        go_wp2_with (refine bodyPost_ret (res_get _ (.string ⟨#[]⟩) (.bool false) (.bool true) ?_ ?_ ?_) rfl (Hid.out ?_); iterate 3 simp only [List.getElem?_toArray, List.getElem?_cons_succ, List.getElem?_cons_zero])
        exact Lib.hid ⟨s2, true, s0, false, true, rfl, hS3.out, hst3.out, ⟨by omega, by omega⟩, fun hd => (hfin.out hd).elim⟩
end
end Go.Proofs.YtmhlokomlngdmaaGreat
