/- A trie's Len, Slots; what none answers; a new one. The contract of a trie's New. -/
import Derived.Test.YtmhlokomlngdmaaGreatArtPu
namespace Go.Proofs.YtmhlokomlngdmaaGreat
open Go.RowKit
section
variable {w0 w w' w1 : World} {T T1 : TS} {C : Cont} {x : Hd × AN}
theorem AT.length (h : AT w0 w T C) : Calls Tryz.prog 20 #[.pointer (some ⟨T.t, 0, none⟩)] w fun e w' => e = .returned (.int .i64 C.length) ∧ w = w' := by
  obtain ⟨_, c1, _, _, c4, c5, hq⟩ := h.am.cells
  rw [h.sz] at c4
  have hO := out_ok c1 c5
  clear h
  go_enter Tryz.func20, Tryz.ntmps20
  go_wp2_with fail
  refine hO.mono ?_
  rintro e w1 ⟨rfl, rfl⟩
  go_wp2_with fail
  go_ret
  exact ⟨rfl, rfl⟩
theorem AT.slots (h : AT w0 w T C) : Calls Tryz.prog 19 #[.pointer (some ⟨T.t, 0, none⟩)] w fun e w' => e = .returned (.int .i64 T.F.length) ∧ Below w.heap.size w w' := by
  obtain ⟨_, c1, _, _, c4, c5, hq⟩ := h.am.cells
  have hO := out_ok c1 c5
  have hL := AAnode.gLive T.d.A [] (some ⟨T.P.1, 0, none⟩) w (h.am.bw.ag h.am.hd h.am.ta h.am.tc)
  rw [h.am.len] at hL
  replace hL := Lib.hid hL
  clear h
  go_enter Tryz.func19, Tryz.ntmps19
  go_wp2_with fail
  refine hO.mono ?_
  rintro e w1 ⟨rfl, rfl⟩
  go_wp2_with fail
  refine hL.out.mono ?_
  rintro e w1 ⟨rfl, hb⟩
  replace hb := Lib.hid hb
  go_wp2_with fail
  go_ret
  exact ⟨rfl, hb.out⟩
theorem len_nil (w : World) : Calls Tryz.prog 20 #[.pointer none] w fun e w' => e = .returned (.int .i64 0) ∧ w = w' := by
  go_enter Tryz.func20, Tryz.ntmps20
  go_wp2_with fail
  refine (out_nil w).mono ?_
  rintro e w1 ⟨rfl, rfl⟩
  go_wp2_with fail
  go_ret
  exact ⟨rfl, rfl⟩
theorem slots_nil (w : World) : Calls Tryz.prog 19 #[.pointer none] w fun e w' => e = .returned (.int .i64 0) ∧ w = w' := by
  go_enter Tryz.func19, Tryz.ntmps19
  go_wp2_with fail
  refine (out_nil w).mono ?_
  rintro e w1 ⟨rfl, rfl⟩
  go_wp2_with fail
  go_ret
  exact ⟨rfl, rfl⟩
theorem get_nil (key : Str) (v : Value) (w : World) : Calls Tryz.prog 26 #[.pointer none, .string key, v] w fun e w' => e = .returned (.tuple #[.string ⟨#[]⟩, .bool false, .bool true]) ∧ w = w' := by
  go_enter Tryz.func26, Tryz.ntmps26
  go_wp2_with fail
  refine (out_nil w).mono ?_
  rintro e w1 ⟨rfl, rfl⟩
  go_wp2_with (refine bodyPost_ret (res_get _ (.string ⟨#[]⟩) (.bool false) (.bool true) ?_ ?_ ?_) rfl (Hid.out ?_); iterate 3 simp only [List.getElem?_toArray, List.getElem?_cons_succ, List.getElem?_cons_zero])
  exact Lib.hid trivial
theorem next_nil (key : Str) (after : Bool) (v : Value) (w : World) : Calls Tryz.prog 27 #[.pointer none, .string key, .bool after, v] w fun e w' => e = .returned (.tuple #[.string ⟨#[]⟩, .string ⟨#[]⟩, .bool false, .bool true]) ∧ w = w' := by
  go_enter Tryz.func27, Tryz.ntmps27
  go_wp2_with fail
  refine (out_nil w).mono ?_
  rintro e w1 ⟨rfl, rfl⟩
  go_wp2_with fail
  refine bodyPost_ret (v := .tuple #[.string ⟨#[]⟩, .string ⟨#[]⟩, .bool false, .bool true]) (by simp [results, Tryz.results27, go_sem]) rfl ⟨rfl, rfl⟩
set_option maxRecDepth 100000 in
theorem delete_nil (key : Str) (w : World) : Calls Tryz.prog 24 #[.pointer none, .string key] w fun e w' => e = .returned (.tuple #[.string ⟨#[]⟩, .bool false]) ∧ w = w' := by
  go_enter Tryz.func24, Tryz.ntmps24
  go_wp2_with fail
  refine (out_nil w).mono ?_
  rintro e w1 ⟨rfl, rfl⟩
  go_wp2_with fail
  go_ret2
  exact ⟨rfl, rfl⟩
theorem drop_nil (w : World) : Calls Tryz.prog 25 #[.pointer none] w fun e w' => e = .returned (.tuple #[]) ∧ w = w' := by
  go_enter Tryz.func25, Tryz.ntmps25
  go_wp2_with fail
  refine (out_nil w).mono ?_
  rintro e w1 ⟨rfl, rfl⟩
  go_wp2_with fail
  exact ⟨rfl, .tuple #[], by simp [results, Tryz.results25, go_sem], rfl, rfl⟩
theorem check_nil (w : World) : Calls Tryz.prog 22 #[.pointer none] w fun e w' => e = .returned (.bool true) ∧ Below w.heap.size w w' := by
  have hb : Below w.heap.size w (w.alloc (.cells #[.pointer none] 30)) := (Below.refl _ _).alloc (Nat.le_refl _) _
  replace hb := Lib.hid hb
  go_enter Tryz.func22, Tryz.ntmps22
  go_wp2_with fail
  refine (out_nil _).mono ?_
  rintro e w1 ⟨rfl, rfl⟩
  go_wp2_with fail
  go_ret
  exact ⟨rfl, hb.out⟩
theorem all_nil (w : World) : Calls Tryz.prog 14 #[.pointer none] w fun e w' => e = .returned (.slice none 0 0) ∧ Below w.heap.size w w' := by
  have hb := below_two w (.cells #[.pointer none] 30) (.cells #[.slice none 0 0] 35)
  replace hb := Lib.hid hb
  go_enter Tryz.func14, Tryz.ntmps14
  go_wp2_with fail
  refine (out_nil _).mono ?_
  rintro e w1 ⟨rfl, rfl⟩
  go_wp2_with fail
  go_ret
  exact ⟨rfl, hb.out⟩
end
end Go.Proofs.YtmhlokomlngdmaaGreat
namespace Go.Proofs.YtmhlokomlngdmaaGreat
open Go.RowKit
section
variable {w0 w w' w1 : World} {ρ : Nat → Nat} {P : Nat × Nat × Nat} {gens : List Int} {free : List Bool} {D : List ArD} {T T1 : TS} {C : Cont} {x : Hd × AN}
/-- A tree's block and an arena without nodes. -/
def T00 (ρ : Nat → Nat) (P : Nat × Nat × Nat) (gens : List Int) (free : List Bool) (D : List ArD) (a m t : Nat) : TS :=
  ⟨ρ, P, gens, free, D ++ [⟨125, 129, ⟨a, m, [], 0⟩⟩], D.length, t, ⟨125, 129, ⟨a, m, [], 0⟩⟩, (0, 0), 0, [], fun _ => none⟩
theorem am_start {a m : Nat} (hB : BW w0 w ρ P gens free (D ++ [⟨125, 129, ⟨a, m, [], 0⟩⟩])) (hcnt : free.count true + (D.map fun d => d.A.L.length).sum = free.length) :
    AM w0 (w.alloc (.cells #[.pointer (some ⟨P.1, 0, none⟩), .pointer (some ⟨a, 0, none⟩), .int .i64 0, .int .u64 0, .int .i64 0, .bool false] 79)) (T00 (mark ρ w.heap.size 4) P gens free D a m w.heap.size) ∧
      RU [] w (w.alloc (.cells #[.pointer (some ⟨P.1, 0, none⟩), .pointer (some ⟨a, 0, none⟩), .int .i64 0, .int .u64 0, .int .i64 0, .bool false] 79)) ρ (mark ρ w.heap.size 4) := by
  have hb := (Below.refl w.heap.size w).alloc (Nat.le_refl _) (.cells #[.pointer (some ⟨P.1, 0, none⟩), .pointer (some ⟨a, 0, none⟩), .int .i64 0, .int .u64 0, .int .i64 0, .bool false] 79)
  have hU := (RU.below (rs := []) hB.ro hb).mark (b := w.heap.size) (r := 4) (Nat.le_refl _) (heap_lt (heap_alloc_new _ _))
  refine ⟨⟨hB.ru hU (by simp), by simp [T00], rfl, rfl, mark_self, heap_alloc_new _ _, fun x hx => by simp [T00] at hx, fun x hx => by simp [T00] at hx, List.nodup_nil, ⟨fun _ => 0, fun nb L h => by simp [T00] at h⟩, rfl, fun j d' e e' _ _ _ he' => by simp [T00] at he', ?_⟩, hU⟩
  simp only [T00, List.map_append, List.sum_append]
  simpa using hcnt
/-- A root is put in. -/
def RootMid (w0 w : World) (T : TS) (T2 : TS) (g : Hd) (nb : Nat) (wz : World) : Prop :=
  AM w0 wz T2 ∧ TEv w wz T T2 ∧ T2.F = T.F ++ [(g, ⟨[], s0, none, [], nb⟩)] ∧ T2.n = T.n ∧ T2.free.count true + 1 = T.free.count true
theorem RootMid.own {S : List Nat} {T2 : TS} {g : Hd} {nb : Nat} {wz : World} (h : RootMid w0 w T T2 g nb wz) (hw : w0.heap.size ≤ w.heap.size) (hu : Upd S wz w') (hS : ∀ q, q ∈ S → w.heap.size ≤ q ∧ T2.ρ q = 0) : RootMid w0 w T T2 g nb w' :=
  ⟨h.1.wr hu (fun q hq => ⟨Nat.le_trans hw (hS q hq).1, (hS q hq).2⟩), h.2.1.own h.1 hu (fun q hq => (hS q hq).1), h.2.2⟩
theorem RootMid.below {T2 : TS} {g : Hd} {nb : Nat} {wz : World} (h : RootMid w0 w T T2 g nb wz) (hb : Below wz.heap.size wz w') : RootMid w0 w T T2 g nb w' :=
  ⟨h.1.below hb, h.2.1.trans (TEv.below h.1 hb), h.2.2⟩
theorem LeafNew.allocRoot {nb : Nat} {wz : World} (h : LeafNew w0 w T T1 nb wz) (hfr : true ∈ T.free) :
    ∃ g, Calls Tryz.prog 29 #[.pointer (some ⟨T.d.A.a, 0, none⟩), .agg #[.string ⟨#[]⟩, .string ⟨#[]⟩, .bool false, .pointer (some ⟨nb, 0, none⟩)]] wz fun y w' =>
      y = .returned (.tuple #[hV g, .int .i64 0]) ∧ ∃ T2, RootMid w0 w T T2 g nb w' ∧ TEv wz w' T1 T2 := by
  obtain ⟨q1, q2, q3, q4, q5, q6, q7, q8⟩ := h
  obtain ⟨g, g1, g2⟩ := q1.alloc ⟨[], s0, none, [], nb⟩ (by rw [q4]; exact updK_self) (by rw [q6]; exact hfr)
  refine ⟨g, ?_⟩
  rw [q7] at g2
  refine g2.mono ?_
  rintro y w' ⟨rfl, T2, r1, r2, r3, r4, r5, r6⟩
  exact ⟨rfl, T2, ⟨r1, q2.trans r2, by rw [r3, q3], r5.trans q5, by rw [r6, q6]⟩, r2⟩
theorem LeafNew.allocFull {nb : Nat} {wz : World} (h : LeafNew w0 w T T1 nb wz) (hfr : true ∉ T.free) :
    Calls Tryz.prog 29 #[.pointer (some ⟨T.d.A.a, 0, none⟩), .agg #[.string ⟨#[]⟩, .string ⟨#[]⟩, .bool false, .pointer (some ⟨nb, 0, none⟩)]] wz fun y w' =>
      y = .returned (.tuple #[hV (0, 0), .int .i64 5]) ∧ Below wz.heap.size wz w' := by
  obtain ⟨q1, q2, q3, q4, q5, q6, q7, q8⟩ := h
  have hA := q1.bw.ars.gR q1.hd
  rw [q1.ta, q1.tc] at hA
  have hp := q1.bw.ars.pool.1
  rw [← q6] at hfr
  rw [← q7]
  exact AAnode.gAlloc_full T1.d.A T1.P.1 T1.P.2.1 T1.P.2.2 [T1.P.1, T1.P.2.1, T1.P.2.2, T1.d.A.m] T1.gens T1.free ⟨#[]⟩ ⟨#[]⟩ false (some ⟨nb, 0, none⟩) wz hA hp hfr
/-- The root's handle is written into the tree's block. -/
theorem AM.root (h : AM w0 w T) (g : Hd) : AM w0 ((w.setCell ⟨T.t, 2, none⟩ (.int .i64 g.1)).setCell ⟨T.t, 3, none⟩ (.int .u64 g.2)) { T with r := g } ∧ RU [4] w ((w.setCell ⟨T.t, 2, none⟩ (.int .i64 g.1)).setCell ⟨T.t, 3, none⟩ (.int .u64 g.2)) T.ρ T.ρ := by
  have hu : Upd [T.t] w ((w.setCell ⟨T.t, 2, none⟩ (.int .i64 g.1)).setCell ⟨T.t, 3, none⟩ (.int .u64 g.2)) := Upd.setCell (Upd.setCell (Upd.refl _ _) (by simp) _) (by simp) _
  have hU : RU [4] w ((w.setCell ⟨T.t, 2, none⟩ (.int .i64 g.1)).setCell ⟨T.t, 3, none⟩ (.int .u64 g.2)) T.ρ T.ρ := RU.upd h.bw.ro hu (fun k hk _ => by simp at hk; subst hk; simp [h.rol])
  have h1 := heap_set_same h.blk 2 (.int .i64 g.1)
  have h2 := heap_set_same h1 3 (.int .u64 g.2)
  exact ⟨⟨h.bw.ru hU (by simp), h.hd, h.ta, h.tc, h.rol, h2, h.ent, h.kid, h.ndf, h.kw.ru hU (by simp), h.len, h.sep, h.cnt⟩, hU⟩
theorem at_one {g : Hd} {nb : Nat} (hF : T.F = [(g, ⟨[], s0, none, [], nb⟩)]) (ha : AM w0 w { T with r := g }) (hn : T.n = 0) : AT w0 w { T with r := g } [] := by
  refine ⟨ha, ?_, ?_, ?_, ?_, hn, ?_⟩
  · show AOK T.F g
    rw [hF]
    exact ⟨by simp, by simp, ⟨_, List.mem_singleton.2 rfl, rfl, rfl⟩, fun x hx y hy => (by rw [List.mem_singleton.1 hx] at hy; cases hy), fun x hx => .inl (by rw [List.mem_singleton.1 hx]), fun x hx => by rw [List.mem_singleton.1 hx]; exact List.Pairwise.nil⟩
  · show ACt T.F []
    rw [hF]
    exact ⟨List.Pairwise.nil, fun k v => ⟨fun h => (by cases h), fun ⟨x, hx, _, hv⟩ => (by rw [List.mem_singleton.1 hx] at hv; cases hv)⟩⟩
  · show ANrm T.F g
    rw [hF]
    exact fun x hx => .inl (by rw [List.mem_singleton.1 hx])
  · show (T.F.map (·.2.nb)).Nodup
    rw [hF]; simp
  · show ∀ x, x ∈ T.F → x.2.path.length ≤ 600
    rw [hF]
    exact fun x hx => by rw [List.mem_singleton.1 hx]; exact Nat.zero_le _
def NewEnd (w0 w : World) (ρ : Nat → Nat) (P : Nat × Nat × Nat) (free : List Bool) (D : List ArD) (e : Ending) (w' : World) : Prop :=
  (true ∈ free ∧ ∃ T, e = .returned (.tuple #[.pointer (some ⟨T.t, 0, none⟩), .int .i64 0]) ∧ AT w0 w' T [] ∧ T.P = P ∧ T.i = D.length ∧ T.F.length = 1 ∧ T.free.count true + 1 = free.count true ∧ T.free.length = free.length ∧
      RU [1, 2, 3, 4, 5, 10 + 3 * D.length, 12 + 3 * D.length] w w' ρ T.ρ ∧ T.D.length = D.length + 1 ∧ ∀ j, j < D.length → T.D[j]? = D[j]?) ∨
  (true ∉ free ∧ e = .returned (.tuple #[.pointer none, .int .i64 5]) ∧ Below w.heap.size w w')
set_option maxRecDepth 100000 in
set_option maxHeartbeats 16000000 in
theorem new_any (hB : BW w0 w ρ P gens free D) (hcnt : free.count true + (D.map fun d => d.A.L.length).sum = free.length) :
    Calls Tryz.prog 9 #[.pointer (some ⟨P.1, 0, none⟩)] w (NewEnd w0 w ρ P free D) := by
  have hN := AAnode.gNew (some ⟨P.1, 0, none⟩) [] w
  replace hN := Lib.hid hN
  go_enter Tryz.func9, Tryz.ntmps9
  go_wp2_with fail
  refine hN.out.mono ?_
  clear hN
  rintro e w1 ⟨rfl, hb1, hs1, hAG⟩
  obtain ⟨a1, a2⟩ := hB.ars.new hB.ro hb1 hs1 (ta := 125) (tc := 129) hAG
  have hB1 : BW w0 w1 _ P gens free (D ++ [⟨125, 129, ⟨w.heap.size + 1, w.heap.size, [], 0⟩⟩]) := ⟨hB.ro.step a2 (by simp), a1⟩
  obtain ⟨hA2, hU2⟩ := am_start hB1 hcnt
  have hRU := a2.trans hU2
  have hs2 : (w1.alloc (.cells #[.pointer (some ⟨P.1, 0, none⟩), .pointer (some ⟨w.heap.size + 1, 0, none⟩), .int .i64 0, .int .u64 0, .int .i64 0, .bool false] 79)).heap.size = w.heap.size + 3 := by simp [hs1]
  obtain ⟨T0, hT0⟩ : ∃ T0, T0 = T00 (mark (mark (mark ρ (w.heap.size + 1) (11 + 3 * D.length)) w.heap.size (12 + 3 * D.length)) w1.heap.size 4) P gens free D (w.heap.size + 1) w.heap.size w1.heap.size := ⟨_, rfl⟩
  have q1 : T0.ρ = mark (mark (mark ρ (w.heap.size + 1) (11 + 3 * D.length)) w.heap.size (12 + 3 * D.length)) w1.heap.size 4 := by rw [hT0]; rfl
  have q2 : T0.P = P := by rw [hT0]; rfl
  have q3 : T0.free = free := by rw [hT0]; rfl
  have q4 : T0.D = D ++ [⟨125, 129, ⟨w.heap.size + 1, w.heap.size, [], 0⟩⟩] := by rw [hT0]; rfl
  have q5 : T0.i = D.length := by rw [hT0]; rfl
  have q6 : T0.t = w.heap.size + 2 := by rw [hT0, ← hs1]; rfl
  have q7 : T0.F = [] := by rw [hT0]; rfl
  have q8 : T0.n = 0 := by rw [hT0]; rfl
  have q9 : T0.d.A.a = w.heap.size + 1 := by rw [hT0]; rfl
  rw [← hT0] at hA2
  rw [← q1] at hRU
  go_upto_region 2 with fail
  generalize w1.alloc (.cells #[.pointer (some ⟨P.1, 0, none⟩), .pointer (some ⟨w.heap.size + 1, 0, none⟩), .int .i64 0, .int .u64 0, .int .i64 0, .bool false] 79) = w2 at *
  obtain ⟨_, c1, _, _, _, _, hq⟩ := hA2.cells
  rw [q6, q9] at c1
  rw [q6] at hq
  have hNew := Lib.hid fun W (hW : Below w2.heap.size w2 W) => hA2.newKids W hW
  have hfrd : ∀ (b : Bool), b = decide (true ∈ free) → (b = true ↔ true ∈ free) := fun b hb => by rw [hb]; exact decide_eq_true_iff
  replace q1 := Lib.hid q1
  replace q2 := Lib.hid q2
  replace q3 := Lib.hid q3
  replace q4 := Lib.hid q4
  replace q5 := Lib.hid q5
  replace q6 := Lib.hid q6
  replace q7 := Lib.hid q7
  replace q8 := Lib.hid q8
  replace q9 := Lib.hid q9
  replace hRU := Lib.hid hRU
  replace hA2 := Lib.hid hA2
  replace hs2 := Lib.hid hs2
  replace hs1 := Lib.hid hs1
  replace hb1 := Lib.hid hb1
  replace hB := Lib.hid hB
  replace hT0 := Lib.hid hT0
  clear a1 hB1 hU2 hAG a2 hcnt hfrd
  obtain ⟨tb, htb⟩ : ∃ tb, tb = w.heap.size + 2 := ⟨_, rfl⟩
  obtain ⟨ab, hab⟩ : ∃ ab, ab = w.heap.size + 1 := ⟨_, rfl⟩
  rw [← htb, ← hab] at c1
  rw [← htb] at hq
  rw [← htb, ← hab]
  replace htb := Lib.hid htb
  replace hab := Lib.hid hab
  have hne := World.new_ne w2 _ c1
  have hnt : ¬ tb = w2.heap.size := fun e => hne e.symm
  by_cases hfr : true ∈ free
  · go_cut [5, 6] (fun v5 v6 wz => ∃ QB g nb T2, v5 = .pointer (some ⟨QB, 0, none⟩) ∧ v6 = .int .i64 0 ∧ w2.heap.size ≤ QB ∧ T2.ρ QB = 0 ∧ wz.heap[QB]? = some (.cells #[.int .i64 g.1, .int .u64 g.2] 77) ∧ RootMid w0 w2 T0 T2 g nb wz)
    case first =>
      have hAl : Hid (∀ T1 nb W, LeafNew w0 w2 T0 T1 nb W → ∃ g, Calls Tryz.prog 29 #[.pointer (some ⟨ab, 0, none⟩), .agg #[.string ⟨#[]⟩, .string ⟨#[]⟩, .bool false, .pointer (some ⟨nb, 0, none⟩)]] W fun y w' => y = .returned (.tuple #[hV g, .int .i64 0]) ∧ ∃ T2, RootMid w0 w2 T0 T2 g nb w' ∧ TEv W w' T1 T2) := Lib.hid fun T1 nb W hL => by
        have := hL.allocRoot (by rw [q3.out]; exact hfr)
        rw [q9.out, ← hab.out] at this
        exact this
      have hc1 : Hid (∀ W T1, AM w0 W T1 → TEv w2 W T0 T1 → W.cell? ⟨tb, 1, none⟩ = some (.pointer (some ⟨ab, 0, none⟩))) := Lib.hid fun W T1 h1 h2 => by
        have := h2.cell1 h1
        rw [q6.out, q9.out, ← htb.out, ← hab.out] at this
        exact this
      go_region_held3 (fun W' => W'.cell? ⟨tb, 1, none⟩ = some (.pointer (some ⟨ab, 0, none⟩))) (first | exact c1 | exact i1 | go_keep) (first
        | (go_at_call 30; refine (hNew.out _ (bel_dwa _)).mono ?_; rintro e w3 ⟨nb, T1, rfl, hN, hev, hb3⟩; have i1 := hc1.out _ _ hN.1 hN.2.1; have qx := Below.heap' hb3 (new_dw w2 _); have qr := (hev.ru.role _ (heap_lt (new_dw w2 (.cells #[.int .i64 0, .int .u64 0] 77)))).trans (hA2.out.bw.ro.far _ (Nat.le_refl _)); replace qx := Lib.hid qx; replace qr := Lib.hid qr; replace hN := Lib.hid hN; replace hev := Lib.hid hev; replace hb3 := Lib.hid hb3)
        | (go_at_call 30; refine (hNew.out _ bel_dw).mono ?_; rintro e w3 ⟨nb, T1, rfl, hN, hev, hb3⟩; have i1 := hc1.out _ _ hN.1 hN.2.1; have hne1 := World.new_ne w3 _ i1; replace hN := Lib.hid hN; replace hev := Lib.hid hev; replace hb3 := Lib.hid hb3)
        | (go_at_call 29; obtain ⟨g, hCl⟩ := hAl.out _ _ _ hN.out; refine hCl.mono ?_; rintro y w4 ⟨rfl, T2, hM, hev2⟩; have i1 := hc1.out _ _ hM.1 hM.2.1; have q2' := hev2.keep qx.out qr.out; obtain ⟨p0, p1, pq, pf⟩ := cells2 q2'.1; replace q2' := Lib.hid q2'; replace hM := Lib.hid hM; replace hev2 := Lib.hid hev2; replace hCl := Lib.hid hCl)
        | (go_at_call 29; obtain ⟨g, hCl⟩ := hAl.out _ _ _ hN.out; refine hCl.mono ?_; rintro y w4 ⟨rfl, T2, hM, hev2⟩; have i1 := hc1.out _ _ hM.1 hM.2.1; have hne2 := World.new_ne w4 _ i1; replace hM := Lib.hid hM; replace hev2 := Lib.hid hev2; replace hCl := Lib.hid hCl)
        | (go_at_call 29; obtain ⟨g, hCl⟩ := hAl.out _ _ _ (hN.out.below ((Below.refl w3.heap.size w3).alloc (Nat.le_refl _) (.cells #[.int .i64 0, .int .u64 0] 77))); refine hCl.mono ?_; rintro y w4 ⟨rfl, T2, hM, hev2⟩; have i1 := hc1.out _ _ hM.1 hM.2.1; have q2' := hev2.keep (heap_alloc_new w3 _) (hN.out.1.bw.ro.far _ (Nat.le_refl _)); obtain ⟨p0, p1, pq, pf⟩ := cells2 q2'.1; replace q2' := Lib.hid q2'; replace hM := Lib.hid hM; replace hev2 := Lib.hid hev2; replace hCl := Lib.hid hCl))
      all_goals
        go_wp2_with fail
        go_meet
        have hw0 := hA2.out.bw.ro.bel.size
        first
        | (have hqr := qr.out
           exact ⟨w2.heap.size, g, nb, T2, rfl, rfl, Nat.le_refl _, q2'.out.2, (hd_stored q2'.out.1 _ _).1, hM.out.own hw0 (hd_stored q2'.out.1 _ _).2 (fun q hq => by rw [List.mem_singleton.1 hq]; exact ⟨Nat.le_refl _, q2'.out.2⟩)⟩)
        | (have hqr := q2'.out
           exact ⟨w3.heap.size, g, nb, T2, rfl, rfl, hN.out.2.1.ru.size, q2'.out.2, (hd_stored q2'.out.1 _ _).1, hM.out.own hw0 (hd_stored q2'.out.1 _ _).2 (fun q hq => by rw [List.mem_singleton.1 hq]; exact ⟨hN.out.2.1.ru.size, q2'.out.2⟩)⟩)
        | exact ⟨w4.heap.size, g, nb, T2, rfl, rfl, hM.out.2.1.ru.size, hM.out.1.bw.ro.far _ (Nat.le_refl _), heap_alloc_new _ _, hM.out.below ((Below.refl _ _).alloc (Nat.le_refl _) _)⟩
    case rest =>
      obtain ⟨QB, g, nb, T2, rfl, rfl, hQq, hQr, hQc, hM⟩ := hcut
      obtain ⟨wd, hwd⟩ : ∃ wd, wd = wc := ⟨_, rfl⟩
      rw [← hwd] at hQc hM ⊢
      clear hwd
      obtain ⟨hA3, hev3, hF3, hn3, hc3⟩ := hM
      obtain ⟨hA4, hU4⟩ := hA3.root g
      have ht2 : T2.t = tb := by rw [hev3.t, q6.out, htb.out]
      have hend : Hid (NewEnd w0 w ρ P free D (.returned (.tuple #[.pointer (some ⟨tb, 0, none⟩), .int .i64 0])) ((wd.setCell ⟨tb, 2, none⟩ (.int .i64 g.1)).setCell ⟨tb, 3, none⟩ (.int .u64 g.2))) := Lib.hid (by
        have hF := hF3
        rw [q7.out, List.nil_append] at hF
        refine .inl ⟨hfr, { T2 with r := g }, by rw [← ht2], ?_, hev3.P.trans q2.out, hev3.i.trans q5.out, by show T2.F.length = 1; rw [hF]; rfl, by show T2.free.count true + 1 = _; rw [hc3, q3.out], by show T2.free.length = _; rw [hev3.fl, q3.out], ?_, by show T2.D.length = _; rw [hev3.dl, q4.out]; simp, fun j hj => ?_⟩
        · rw [← ht2]
          exact at_one hF hA4 (hn3.trans q8.out)
        · have h1 := hev3.ru
          rw [q5.out] at h1
          rw [← ht2]
          exact (hRU.out.mono (by simp)).trans (h1.trans (hU4.mono (by simp)))
        · show T2.D[j]? = D[j]?
          rw [hev3.dj j (by rw [q5.out]; omega), q4.out, List.getElem?_append_left hj])
      obtain ⟨p0, p1, pq, pf⟩ := cells2 hQc
      obtain ⟨_, _, y2, y3, _, _, yq⟩ := hA3.cells
      have yf := fun i => frozen_of_heap hA3.blk i
      rw [ht2] at y2 y3 yq yf
      replace hA3 := Lib.hid hA3
      replace hA4 := Lib.hid hA4
      replace hU4 := Lib.hid hU4
      replace hev3 := Lib.hid hev3
      replace hF3 := Lib.hid hF3
      replace hn3 := Lib.hid hn3
      replace hc3 := Lib.hid hc3
      replace hQc := Lib.hid hQc
      replace ht2 := Lib.hid ht2
      clear c1 hNew
      go_wp2_with fail
      go_ret2
      exact hend.out
  · go_cut [5, 6] (fun v5 v6 wz => v6 = .int .i64 5 ∧ Below w2.heap.size w2 wz)
    case first =>
      have hAl : Hid (∀ T1 nb W, LeafNew w0 w2 T0 T1 nb W → Calls Tryz.prog 29 #[.pointer (some ⟨ab, 0, none⟩), .agg #[.string ⟨#[]⟩, .string ⟨#[]⟩, .bool false, .pointer (some ⟨nb, 0, none⟩)]] W fun y w' => y = .returned (.tuple #[hV (0, 0), .int .i64 5]) ∧ Below W.heap.size W w') := Lib.hid fun T1 nb W hL => by
        have := hL.allocFull (by rw [q3.out]; exact hfr)
        rw [q9.out, ← hab.out] at this
        exact this
      go_region_held3 (fun W' => W'.cell? ⟨tb, 1, none⟩ = some (.pointer (some ⟨ab, 0, none⟩))) (first | exact c1 | exact i1 | go_keep) (first
        | (go_at_call 30; refine (hNew.out _ (bel_dwa _)).mono ?_; rintro e w3 ⟨nb, T1, rfl, hN, hev, hb3⟩; have hbw := (bel_dwa _).trans (hb3.mono (bel_dwa _).size); have i1 := keep hbw c1; have qx := Below.heap' hb3 (new_dw w2 _); replace qx := Lib.hid qx; replace hbw := Lib.hid hbw; replace hN := Lib.hid hN; replace hev := Lib.hid hev; replace hb3 := Lib.hid hb3)
        | (go_at_call 30; refine (hNew.out _ bel_dw).mono ?_; rintro e w3 ⟨nb, T1, rfl, hN, hev, hb3⟩; have hbw := bel_dr (k := 1) hb3; have i1 := keep hbw c1; have hne1 := World.new_ne w3 _ i1; replace hbw := Lib.hid hbw; replace hN := Lib.hid hN; replace hev := Lib.hid hev; replace hb3 := Lib.hid hb3)
        | (go_at_call 29; refine (hAl.out _ _ _ hN.out).mono ?_; rintro y w4 ⟨rfl, hb4⟩; have hbx := hbw.out.trans (hb4.mono hbw.out.size); have i1 := keep hbx c1; have q2' := Below.heap' hb4 qx.out; obtain ⟨p0, p1, pq, pf⟩ := cells2 q2'; replace q2' := Lib.hid q2'; replace hbx := Lib.hid hbx; replace hb4 := Lib.hid hb4)
        | (go_at_call 29; refine (hAl.out _ _ _ hN.out).mono ?_; rintro y w4 ⟨rfl, hb4⟩; have hbx := hbw.out.trans (hb4.mono hbw.out.size); have i1 := keep hbx c1; have hne2 := World.new_ne w4 _ i1; replace hbx := Lib.hid hbx; replace hb4 := Lib.hid hb4)
        | (go_at_call 29; refine (hAl.out _ _ _ (hN.out.below ((Below.refl w3.heap.size w3).alloc (Nat.le_refl _) (.cells #[.int .i64 0, .int .u64 0] 77)))).mono ?_; rintro y w4 ⟨rfl, hb4⟩; have hba := (Below.refl w3.heap.size w3).alloc (Nat.le_refl _) (.cells #[.int .i64 0, .int .u64 0] 77); have hb34 := hba.trans (hb4.mono hba.size); have hbx := hbw.out.trans (hb34.mono hbw.out.size); have i1 := keep hbx c1; have q2' := Below.heap' hb4 (heap_alloc_new w3 _); obtain ⟨p0, p1, pq, pf⟩ := cells2 q2'; have hw3 := hbw.out.size; replace q2' := Lib.hid q2'; replace hbx := Lib.hid hbx; replace hb34 := Lib.hid hb34; replace hb4 := Lib.hid hb4))
      all_goals
        go_wp2_with fail
        go_meet
        first
        | (have hqx := qx.out
           exact ⟨rfl, hbx.out.trans ((hd_stored q2'.out _ _).2.below hbx.out.size (fun k hk => by rw [List.mem_singleton.1 hk]; exact Nat.le_refl _))⟩)
        | (have hqx := q2'.out
           exact ⟨rfl, hbx.out.trans ((hd_stored q2'.out _ _).2.below hbx.out.size (fun k hk => by rw [List.mem_singleton.1 hk]; exact hw3))⟩)
        | exact ⟨rfl, hbx.out.alloc hbx.out.size _⟩
    case rest =>
      obtain ⟨rfl, hb⟩ := hcut
      have hend : Hid (Below w.heap.size w wc) := Lib.hid (by
        have h1 : Below w.heap.size w w2 := ⟨hRU.out.os, hRU.out.tape, hRU.out.output, hRU.out.size, fun k hk => hRU.out.block k hk (by simp)⟩
        exact h1.trans (hb.mono h1.size))
      replace hb := Lib.hid hb
      go_wp2_with fail
      go_ret2
      exact .inr ⟨hfr, rfl, hend.out⟩
set_option maxRecDepth 100000 in
set_option maxHeartbeats 16000000 in
theorem new_nil (w : World) : Calls Tryz.prog 9 #[.pointer none] w fun e w' => e = .returned (.tuple #[.pointer none, .int .i64 5]) ∧ Below w.heap.size w w' := by
  have hN := AAnode.gNew none [] w
  replace hN := Lib.hid hN
  go_enter Tryz.func9, Tryz.ntmps9
  go_wp2_with fail
  refine hN.out.mono ?_
  clear hN
  rintro e w1 ⟨rfl, hb1, hs1, hAG⟩
  have hbt := (Below.refl w1.heap.size w1).alloc (Nat.le_refl _) (.cells #[.pointer none, .pointer (some ⟨w.heap.size + 1, 0, none⟩), .int .i64 0, .int .u64 0, .int .i64 0, .bool false] 79)
  have hblk := heap_alloc_new w1 (.cells #[.pointer none, .pointer (some ⟨w.heap.size + 1, 0, none⟩), .int .i64 0, .int .u64 0, .int .i64 0, .bool false] 79)
  have hbw0 := hb1.trans (hbt.mono hb1.size)
  have hIs := hAG.is.below hbt
  go_upto_region 2 with fail
  generalize w1.alloc (.cells #[.pointer none, .pointer (some ⟨w.heap.size + 1, 0, none⟩), .int .i64 0, .int .u64 0, .int .i64 0, .bool false] 79) = w2 at *
  obtain ⟨tb, htb⟩ : ∃ tb, tb = w.heap.size + 2 := ⟨_, rfl⟩
  obtain ⟨ab, hab⟩ : ∃ ab, ab = w.heap.size + 1 := ⟨_, rfl⟩
  rw [hs1, ← htb, ← hab] at hblk
  simp only [← hab] at hIs
  rw [← htb, ← hab]
  have c1 : w2.cell? ⟨tb, 1, none⟩ = some (.pointer (some ⟨ab, 0, none⟩)) := by rw [cell_of_heap hblk]; rfl
  have hq := heap_lt hblk
  have hAl : Hid (∀ (nb : Nat) W, Below w2.heap.size w2 W → Calls Tryz.prog 29 #[.pointer (some ⟨ab, 0, none⟩), .agg #[.string ⟨#[]⟩, .string ⟨#[]⟩, .bool false, .pointer (some ⟨nb, 0, none⟩)]] W fun y w' => y = .returned (.tuple #[hV (0, 0), .int .i64 5]) ∧ Below W.heap.size W w') := Lib.hid fun nb W hW =>
    AAnode.aAlloc_nopool ab _ _ _ ⟨#[]⟩ ⟨#[]⟩ false (some ⟨nb, 0, none⟩) W (hIs.below hW)
  have hne := World.new_ne w2 _ c1
  have hnt : ¬ tb = w2.heap.size := fun e => hne e.symm
  replace htb := Lib.hid htb
  replace hab := Lib.hid hab
  replace hblk := Lib.hid hblk
  replace hIs := Lib.hid hIs
  replace hbw0 := Lib.hid hbw0
  replace hb1 := Lib.hid hb1
  replace hbt := Lib.hid hbt
  replace hs1 := Lib.hid hs1
  clear hAG
  go_cut [5, 6] (fun v5 v6 wz => v6 = .int .i64 5 ∧ Below w2.heap.size w2 wz)
  case first =>
    go_region_held3 (fun W' => W'.cell? ⟨tb, 1, none⟩ = some (.pointer (some ⟨ab, 0, none⟩))) (first | exact c1 | exact i1 | go_keep) (first
      | (go_at_call 30; refine (anNew_any _).mono ?_; rintro e w3 ⟨rfl, hKK, hb3, hss⟩; have hbw := (bel_dwa _).trans (hb3.mono (bel_dwa _).size); have i1 := keep hbw c1; have qx := Below.heap' hb3 (new_dw w2 _); replace qx := Lib.hid qx; replace hbw := Lib.hid hbw; replace hKK := Lib.hid hKK; replace hss := Lib.hid hss; replace hb3 := Lib.hid hb3)
      | (go_at_call 30; refine (anNew_any _).mono ?_; rintro e w3 ⟨rfl, hKK, hb3, hss⟩; have hbw := bel_dr (k := 1) hb3; have i1 := keep hbw c1; have hne1 := World.new_ne w3 _ i1; replace hbw := Lib.hid hbw; replace hKK := Lib.hid hKK; replace hss := Lib.hid hss; replace hb3 := Lib.hid hb3)
      | (go_at_call 29; refine (hAl.out _ _ hbw.out).mono ?_; rintro y w4 ⟨rfl, hb4⟩; have hbx := hbw.out.trans (hb4.mono hbw.out.size); have i1 := keep hbx c1; have q2' := Below.heap' hb4 qx.out; obtain ⟨p0, p1, pq, pf⟩ := cells2 q2'; replace q2' := Lib.hid q2'; replace hbx := Lib.hid hbx; replace hb4 := Lib.hid hb4)
      | (go_at_call 29; refine (hAl.out _ _ hbw.out).mono ?_; rintro y w4 ⟨rfl, hb4⟩; have hbx := hbw.out.trans (hb4.mono hbw.out.size); have i1 := keep hbx c1; have hne2 := World.new_ne w4 _ i1; replace hbx := Lib.hid hbx; replace hb4 := Lib.hid hb4)
      | (go_at_call 29; refine (hAl.out _ _ (hbw.out.alloc hbw.out.size (.cells #[.int .i64 0, .int .u64 0] 77))).mono ?_; rintro y w4 ⟨rfl, hb4⟩; have hba := (Below.refl w3.heap.size w3).alloc (Nat.le_refl _) (.cells #[.int .i64 0, .int .u64 0] 77); have hb34 := hba.trans (hb4.mono hba.size); have hbx := hbw.out.trans (hb34.mono hbw.out.size); have i1 := keep hbx c1; have q2' := Below.heap' hb4 (heap_alloc_new w3 _); obtain ⟨p0, p1, pq, pf⟩ := cells2 q2'; have hw3 := hbw.out.size; replace q2' := Lib.hid q2'; replace hbx := Lib.hid hbx; replace hb34 := Lib.hid hb34; replace hb4 := Lib.hid hb4))
    all_goals
      go_wp2_with fail
      go_meet
      first
      | (have hqx := qx.out
         exact ⟨rfl, hbx.out.trans ((hd_stored q2'.out _ _).2.below hbx.out.size (fun k hk => by rw [List.mem_singleton.1 hk]; exact Nat.le_refl _))⟩)
      | (have hqx := q2'.out
         exact ⟨rfl, hbx.out.trans ((hd_stored q2'.out _ _).2.below hbx.out.size (fun k hk => by rw [List.mem_singleton.1 hk]; exact hw3))⟩)
      | exact ⟨rfl, hbx.out.alloc hbx.out.size _⟩
  case rest =>
    obtain ⟨rfl, hb⟩ := hcut
    have hend : Hid (Below w.heap.size w wc) := Lib.hid (hbw0.out.trans (hb.mono hbw0.out.size))
    replace hb := Lib.hid hb
    go_wp2_with fail
    go_ret2
    exact ⟨rfl, hend.out⟩
end
end Go.Proofs.YtmhlokomlngdmaaGreat
