/- The law EpochPlays: its function retire. -/
import Derived.Test.YtidiefcgepllmaaPlaysE
namespace Go.Proofs.Ytidiefcgepllmaa
open Go.RowKit
theorem act_info : ∃ i0 : TypeInfo, Try.prog.info? 39 = some i0 ∧ i0.zero = some (.agg #[.int .i64 0, .int .i64 0, .int .i64 0]) ∧ i0.size = 3 ∧ i0.bytes = 24 := info_parts (show (Try.prog.info? 39).map (fun i => (i.zero, i.size, i.bytes)) = some (some (.agg #[.int .i64 0, .int .i64 0, .int .i64 0]), 3, 24) by kernel_rfl)
def RetEnd (B : PB) (m : Nat) (w : World) (v : Value) (O : List Nat) (s : PS) (a : A4) (g : EpG) (b : Bool) (L : List Ret) (q : Ending) (w' : World) : Prop :=
  ∃ x : Nat × Nat × Nat, q = .returned (.bool true) ∧ ES B m w v O w' { s with acts := s.acts ++ [a], cnt := s.cnt + 1, bs := ((s.bs ++ [(x.1, Obj.cells #[.pointer (some ⟨B.xb, 0, none⟩)] 31)]) ++ [(x.2.2, Obj.cells #[.int .i64 a.d, .int .i64 a.t, .int .i64 a.h] 39)]) ++ [(x.2.1, Obj.cells #[.int .i64 s.cnt] 3)] } g b (L ++ [⟨35, capsP x, g.now⟩])
set_option maxRecDepth 100000 in
set_option maxHeartbeats 2000000 in
theorem retire4_any {B : PB} {m : Nat} {w : World} {v : Value} {O : List Nat} {s : PS} {g : EpG} {b : Bool} {L : List Ret} (h : EP B m w v O s g b L) (a : A4) (hc : 0 ≤ s.cnt ∧ s.cnt ≤ 100000) (ha : s.acts.length ≤ 100000) (hL : L.length < 1000000) :
    Calls Try.prog 22 #[.pointer (some ⟨B.xb, 0, none⟩), .agg #[.int .i64 a.d, .int .i64 a.t, .int .i64 a.h]] w (RetEnd B m w v O s a g b L) := by
  obtain ⟨hc0, hc1⟩ := hc
  obtain ⟨rv, av, ho⟩ := h.opens
  have c4 := ho.c4
  have xl := ho.lt
  clear ho
  have hmf : ∀ (fn : Fn) (first cap : Array Value) (w : World), (Instr.makeFunc fn first cap).run Try.prog w = .ok (.func fn first cap) w := fun _ _ _ _ => rfl
  have hE1 := (h.alloc (.cells #[.pointer (some ⟨B.xb, 0, none⟩)] 31)).trans (fun v1 O1 h1 => (h1.alloc (.cells #[.int .i64 a.d, .int .i64 a.t, .int .i64 a.h] 39)).trans (fun v2 O2 h2 => h2.alloc (.cells #[.int .i64 s.cnt] 3)))
  simp only [World.size_alloc] at hE1
  replace hE1 := Lib.hid hE1
  replace h := Lib.hid h
  go_enter Try.func22, Try.ntmps22
  go_upto_region 2 with fail
  generalize ((w.alloc (.cells #[.pointer (some ⟨B.xb, 0, none⟩)] 31)).alloc (.cells #[.int .i64 a.d, .int .i64 a.t, .int .i64 a.h] 39)).alloc (.cells #[.int .i64 s.cnt] 3) = w3 at *
  generalize hnn : w.heap.size + 1 + 1 = nn at *
  generalize hna : w.heap.size + 1 = na at *
  generalize hnx : w.heap.size = nx at *
  clear hnn hna hnx c4 xl
  obtain ⟨v3, O3, h3, _⟩ := hE1.out
  obtain ⟨rv3, av3, ho3⟩ := h3.opens
  have d4 := ho3.c4
  have f4 := ho3.fr 4
  have x3 := ho3.lt
  have b0 := ho3.box (nx, .cells #[.pointer (some ⟨B.xb, 0, none⟩)] 31) (by simp)
  have bx0 : w3.cell? ⟨nx, 0, none⟩ = some (.pointer (some ⟨B.xb, 0, none⟩)) := by rw [cell_of_heap b0]; rfl
  have hE4 := Lib.hid (hE1.out.trans (fun v1 O1 h1 => h1.setCnt (s.cnt + 1)))
  clear ho3 h3 b0 hE1 h
  go_upto_region 3 with fail
  generalize w3.setCell ⟨B.xb, 4, none⟩ (.int .i64 (s.cnt + 1)) = w4 at *
  clear d4 f4 x3 bx0
  have hb5 : Below w4.heap.size w4 (w4.drew.alloc (.cells #[.int .i64 a.d, .int .i64 a.t, .int .i64 a.h] 39)) := (Below.refl _ _).drew.alloc (Nat.le_refl _) _
  have hE5 := hE4.out.trans (fun v1 O1 h1 => h1.below hb5)
  obtain ⟨v5, O5, h5, hu5, hg5⟩ := hE5
  obtain ⟨rv5, av5, ho5, hk5, happ5⟩ := h5.actApp
  obtain ⟨a5, c5, e5⟩ := ho5.act.shape
  subst e5
  have hn4 : nx < w4.heap.size ∧ na < w4.heap.size ∧ B.xb < w4.heap.size := by
    obtain ⟨v4, O4, h4, _⟩ := hE4.out
    obtain ⟨_, _, ho4⟩ := h4.opens
    exact ⟨heap_lt (ho4.box (nx, .cells #[.pointer (some ⟨B.xb, 0, none⟩)] 31) (by simp)), heap_lt (ho4.box (na, .cells #[.int .i64 a.d, .int .i64 a.t, .int .i64 a.h] 39) (by simp)), ho4.lt⟩
  obtain ⟨nl, al, xl⟩ := hn4
  have hbx : ∀ wz : World, (∀ p, p ∈ ((s.bs ++ [(nx, Obj.cells #[.pointer (some ⟨B.xb, 0, none⟩)] 31)]) ++ [(na, Obj.cells #[.int .i64 a.d, .int .i64 a.t, .int .i64 a.h] 39)]) ++ [(nn, Obj.cells #[.int .i64 s.cnt] 3)] → wz.heap[p.1]? = some p.2) → wz.cell? ⟨nx, 0, none⟩ = some (.pointer (some ⟨B.xb, 0, none⟩)) ∧ wz.cell? ⟨na, 0, none⟩ = some (.int .i64 a.d) ∧ wz.cell? ⟨na, 1, none⟩ = some (.int .i64 a.t) ∧ wz.cell? ⟨na, 2, none⟩ = some (.int .i64 a.h) := fun wz hz => by
    have z0 := hz (nx, .cells #[.pointer (some ⟨B.xb, 0, none⟩)] 31) (by simp)
    have z1 := hz (na, .cells #[.int .i64 a.d, .int .i64 a.t, .int .i64 a.h] 39) (by simp)
    exact ⟨by rw [cell_of_heap z0]; rfl, by rw [cell_of_heap z1]; rfl, by rw [cell_of_heap z1]; rfl, by rw [cell_of_heap z1]; rfl⟩
  obtain ⟨p0, p1, p2, p3⟩ := hbx _ ho5.box
  have e3 : w4.cell? ⟨B.xb, 3, none⟩ = some (.slice a5 s.acts.length c5) := by rw [← hb5.cell xl]; exact ho5.c3
  rw [hb5.cell nl] at p0
  rw [hb5.cell al] at p1 p2 p3
  have hR5 := Lib.hid ho5.act
  have hS5 : SrcOf (w4.drew.alloc (.cells #[.int .i64 a.d, .int .i64 a.t, .int .i64 a.h] 39)) (.slice (some ⟨w4.drew.heap.size, 0, none⟩) 1 1) 1 3 ([a].flatMap actCell) := SrcOf.one w4.drew 39 (actCell a) (actCell_one a)
  replace hS5 := Lib.hid hS5
  have hbs5 := Lib.hid h5.low
  replace hk5 := Lib.hid hk5
  replace happ5 := Lib.hid happ5
  replace hbx := Lib.hid hbx
  replace hu5 := Lib.hid hu5
  replace hg5 := Lib.hid hg5
  obtain ⟨i3, hi3, hz3, hs3, hy3⟩ := act_info
  have hlen5 : s.acts.length + 1 ≤ maxLen := by unfold maxLen; omega
  have hby5 : (s.acts.length + 1) * 24 ≤ 140737488355328 := by omega
  replace hlen5 := Lib.hid hlen5
  replace hby5 := Lib.hid hby5
  clear ho5 h5 hb5 hE4
  go_region_law (refine step_append_row (f := actCell) (M := [a]) _ rfl (.tmp 21) (.tmp 23) 30 rfl B.base 39 i3 (.agg #[.int .i64 0, .int .i64 0, .int .i64 0]) 3 24 Try.underlying30 hi3 hz3 hs3 hy3 rfl (by decide) (.slice a5 s.acts.length c5) s.acts (by simp [Act.eval]) hR5.out (.slice (some ⟨w4.drew.heap.size, 0, none⟩) 1 1) (by simp [Act.eval]) hS5.out hlen5.out hby5.out hbs5.out ?_; intro a6 c6 w6 hrow hu hat; obtain ⟨y0, y1, y2, y3⟩ := hk5.out w6 hu; obtain ⟨y4, y5, y6, y7⟩ := hbx.out w6 y3; replace y3 := Lib.hid y3; replace hrow := Lib.hid hrow; replace hu := Lib.hid hu; replace hat := Lib.hid hat)
  all_goals
    have hE7 := Lib.hid (ES.comp hu5.out hg5.out (happ5.out _ _ _ hu.out hrow.out (own_at hat.out)))
    clear hu hrow hat y0 y1 y2 y3 y4 y5 y6 y7 hk5 happ5 hu5 hg5 hS5 hR5 hbs5 p0 p1 p2 p3 e3 hi3 hz3 hs3 hy3 hlen5 hby5
    generalize w6.setCell ⟨B.xb, 3, none⟩ (.slice a6 (s.acts.length + 1) c6) = w7 at *
    obtain ⟨v7, O7, h7, hu7, hg7⟩ := hE7.out
    obtain ⟨rv7, av7, ho7⟩ := h7.opens
    obtain ⟨y4, y5, y6, y7⟩ := hbx.out w7 ho7.box
    have y0 := ho7.c0
    have xl7 := ho7.lt
    have hcl := Lib.hid (h7.Retire 35 (capsP (nx, nn, na)) hL)
    replace hu7 := Lib.hid hu7
    replace hg7 := Lib.hid hg7
    clear ho7 h7
    go_wp2_with fail
    refine hcl.out.mono ?_
    clear hcl
    rintro z w8 ⟨rfl, h8⟩
    replace h8 := Lib.hid h8
    go_wp2_with fail
    go_ret
    exact ⟨(nx, nn, na), rfl, ES.comp hu7.out hg7.out h8.out⟩
end Go.Proofs.Ytidiefcgepllmaa
