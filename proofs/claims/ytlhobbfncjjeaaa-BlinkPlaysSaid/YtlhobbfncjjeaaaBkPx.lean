/- A slice of handles of the law's own, to which handles are appended and of which the first one is taken off. The contract of the document's Next. BlinkPlays: a pool with a tree and an arena of ints, the law's struct, its handles, the document's pairs; what is called leaves them in step. -/
import Derived.Test.YtlhobbfncjjeaaaBkTree
import Derived.Deep.AppendSrc
import Derived.Test.YtlhobbfncjjeaaaBkRef
import Derived.Test.YtlhobbfncjjeaaaBkHands
import Derived.Test.YtlhobbfncjjeaaaBkTwo
import Derived.Test.YtlhobbfncjjeaaaArenaOfPInt
namespace Go.Proofs.Ytlhobbfncjjeaaa
open Go.RowKit
theorem handi_info : ∃ i0 : TypeInfo, Try.prog.info? 70 = some i0 ∧ i0.zero = some (.agg #[.int .i64 0, .int .u64 0]) ∧ i0.size = 2 ∧ i0.bytes = 16 := info_parts (show (Try.prog.info? 70).map (fun i => (i.zero, i.size, i.bytes)) = some (some (.agg #[.int .i64 0, .int .u64 0]), 2, 16) by kernel_rfl)
structure Oth (w : World) (ρ : Nat → Nat) (a : Option Addr) (c : Nat) (H : List Hd) : Prop where
  le : H.length ≤ c
  mx : c ≤ maxLen
  wh : (a = none ∧ c = 0) ∨ ∃ b off, a = some ⟨b, off, none⟩ ∧ ρ b = 8 ∧ b < w.heap.size ∧ (∀ j y, (H.flatMap hcel)[j]? = some y → w.cell? ⟨b, off + j, none⟩ = some y) ∧ ∀ j, j < c * 2 → (w.cell? ⟨b, off + j, none⟩).isSome = true ∧ w.frozen? ⟨b, off + j, none⟩ = false
theorem hlen (H : List Hd) : (H.flatMap hcel).length = H.length * 2 := flat_len (f := hcel) (k := 2) (fun _ => rfl) H
section
variable {w0 w w' : World} {ρ ρ' : Nat → Nat} {a : Option Addr} {c : Nat} {H : List Hd} {rs : List Nat}
theorem Oth.nil (w : World) (ρ : Nat → Nat) : Oth w ρ none 0 [] := ⟨by simp, by simp [maxLen], .inl ⟨rfl, rfl⟩⟩
theorem Oth.ru (h : Oth w ρ a c H) (hu : RU rs w w' ρ ρ') (h8 : 8 ∉ rs) : Oth w' ρ' a c H := by
  refine ⟨h.le, h.mx, h.wh.imp id ?_⟩
  rintro ⟨b, off, h1, h2, h3, h4, h5⟩
  have hb : w'.heap[b]? = w.heap[b]? := hu.block b h3 (by rw [h2]; exact h8)
  refine ⟨b, off, h1, by rw [hu.role b h3]; exact h2, Nat.lt_of_lt_of_le h3 hu.size, fun j y hj => ?_, fun j hj => ?_⟩
  · rw [World.cell?_of_block (a := ⟨b, off + j, none⟩) hb]; exact h4 j y hj
  · rw [World.cell?_of_block (a := ⟨b, off + j, none⟩) hb, World.frozen?_of_block (a := ⟨b, off + j, none⟩) hb]; exact h5 j hj
theorem Oth.first {x : Hd} (h : Oth w ρ a c (x :: H)) : ∃ b off, a = some ⟨b, off, none⟩ ∧ w.cell? ⟨b, off, none⟩ = some (.int .i64 x.1) ∧ w.cell? ⟨b, off + 1, none⟩ = some (.int .u64 x.2) ∧ b < w.heap.size := by
  have hle := h.le
  simp at hle
  rcases h.wh with ⟨_, h0⟩ | ⟨b, off, h1, h2, h3, h4, h5⟩
  · omega
  · exact ⟨b, off, h1, h4 0 _ rfl, h4 1 _ rfl, h3⟩
/-- 'others[1:]', as the model spells it. -/
theorem Oth.pop {x : Hd} {b off : Nat} (h : Oth w ρ (some ⟨b, off, none⟩) c (x :: H)) : Oth w ρ (if c = 1 then some ⟨b, off, none⟩ else some ⟨b, off + 2, none⟩) (c - 1) H := by
  have hle := h.le
  have hmx := h.mx
  simp at hle
  refine ⟨by omega, by omega, .inr ?_⟩
  rcases h.wh with ⟨h0, _⟩ | ⟨b', off', h1, h2, h3, h4, h5⟩
  · cases h0
  · injection h1 with h1
    injection h1 with h1 h1'
    subst h1 h1'
    by_cases hc : c = 1
    · have hH : H = [] := List.eq_nil_of_length_eq_zero (by omega)
      subst hH
      exact ⟨b, off, if_pos hc, h2, h3, fun j y hj => by simp at hj, fun j hj => by omega⟩
    · refine ⟨b, off + 2, if_neg hc, h2, h3, fun j y hj => ?_, fun j hj => ?_⟩
      · have := h4 (j + 2) y (by simpa [hcel] using hj)
        rwa [show off + (j + 2) = off + 2 + j by omega] at this
      · have := h5 (j + 2) (by omega)
        rwa [show off + (j + 2) = off + 2 + j by omega] at this
theorem Oth.push (ho : Ro w0 w ρ) (h : Oth w ρ a c H) (hn : H.length ≤ 100000) {x : Hd} {sb : Nat} (hs : w.heap[sb]? = some (.cells #[.int .i64 x.1, .int .u64 x.2] 70)) :
    ∃ a' c' w' ρ', (Builtin.append_ #[76, 76] 76 #[.slice a H.length c, .slice (some ⟨sb, 0, none⟩) 1 1]).run Try.prog w = .ok (.slice a' (H.length + 1) c') w' ∧ Oth w' ρ' a' c' (H ++ [x]) ∧ RU [8] w w' ρ ρ' := by
  obtain ⟨i0, hi, hz, hsz, hby⟩ := handi_info
  have hsrc : Src Try.prog i0.size 76 (.slice (some ⟨sb, 0, none⟩) 1 1) 1 (hcel x) w := by
    refine Src.ofSlice w (e' := 70) Try.underlying76 _ _ _ _ (by rw [hsz]; rfl) (fun j u hj => ?_) (fun u hu => ?_)
    · rw [Addr.add_lit, Nat.zero_add, cell_of_heap hs]
      simpa [hcel] using hj
    · simp [hcel] at hu
      rcases hu with rfl | rfl <;> rfl
  have hle := h.le
  have hmx := h.mx
  by_cases hroom : H.length + 1 ≤ c
  · rcases h.wh with ⟨_, h0⟩ | ⟨b, off, rfl, h2, h3, h4, h5⟩
    · omega
    · have hr := run_append_room_src (P := Try.prog) w 76 76 76 70 i0 Try.underlying76 hi b off H.length c _ 1 (hcel x) hsrc hroom (fun j hj => by
        rw [hsz, Nat.add_assoc]; exact (h5 _ (by simp [hcel] at hj; omega)).1) (fun j hj => by
        rw [hsz, Nat.add_assoc]; exact (h5 _ (by simp [hcel] at hj; omega)).2)
      rw [hsz] at hr
      have hupd : Upd [b] w (w.setCells b (off + H.length * 2) (hcel x)) := by
        show Upd [b] w ((w.setCell ⟨b, off + H.length * 2, none⟩ (.int .i64 x.1)).setCell ⟨b, off + H.length * 2 + 1, none⟩ (.int .u64 x.2))
        exact ((Upd.refl _ _).setCell (by simp) _).setCell (by simp) _
      have hU : RU [8] w (w.setCells b (off + H.length * 2) (hcel x)) ρ ρ := RU.upd ho hupd (fun k hk _ => by simp at hk; subst hk; simp [h2])
      have hin := World.cell?_setCells_in b (hcel x) (off + H.length * 2) w (fun j hj => by rw [Nat.add_assoc]; exact (h5 _ (by simp [hcel] at hj; omega)).1)
      refine ⟨_, _, _, ρ, hr, ⟨by simpa using hroom, hmx, .inr ⟨b, off, rfl, h2, Nat.lt_of_lt_of_le h3 hU.size, fun j y hj => ?_, fun j hj => ?_⟩⟩, hU⟩
      · rw [List.flatMap_append] at hj
        by_cases hj2 : j < H.length * 2
        · rw [List.getElem?_append_left (by rw [hlen]; exact hj2)] at hj
          rw [World.cell?_setCells_out b _ _ _ _ (fun _ _ => .inl (by show off + j < _; omega))]
          exact h4 j y hj
        · rw [List.getElem?_append_right (by rw [hlen]; omega), hlen] at hj
          have hj' : (hcel x)[j - H.length * 2]? = some y := by simpa using hj
          obtain ⟨q1, q2⟩ := List.getElem?_eq_some_iff.1 hj'
          have := hin (j - H.length * 2) q1
          rw [q2, show off + H.length * 2 + (j - H.length * 2) = off + j by omega] at this
          exact this
      · rw [World.frozen?_setCells]
        refine ⟨?_, (h5 j hj).2⟩
        by_cases hj3 : H.length * 2 ≤ j ∧ j < H.length * 2 + 2
        · have := hin (j - H.length * 2) (by simp [hcel]; omega)
          rw [show off + H.length * 2 + (j - H.length * 2) = off + j by omega] at this
          rw [this]; rfl
        · rw [World.cell?_setCells_out b _ _ _ _ (fun _ _ => by simp [hcel]; omega)]
          exact (h5 j hj).1
  · have hold : (Builtin.firstCells i0.size H.length (.slice a H.length c)).run Try.prog w.drew = .ok (H.flatMap hcel).toArray w.drew := by
      rw [hsz]
      rcases h.wh with ⟨rfl, h0⟩ | ⟨b, off, rfl, h2, h3, h4, h5⟩
      · have hH : H = [] := List.eq_nil_of_length_eq_zero (by omega)
        subst hH
        subst h0
        exact run_firstCells_none (P := Try.prog) w.drew 2 0 0 0
      · exact run_firstCells_some (P := Try.prog) w.drew 2 H.length _ _ _ _ (hlen H) (fun j v hj => by rw [Addr.add_lit]; exact h4 j v hj)
    have hr := run_append_grow_src (P := Try.prog) w 76 76 76 70 i0 _ Try.underlying76 hi hz a H.length c (H.flatMap hcel) hold _ 1 (hcel x) hsrc (by omega) (by omega) (growslice_fits (by omega) (by rw [hby]; omega))
    have hge := grownCap_ge w (H.length + 1) c 70
    have hcm := grownCap_le_maxLen w (H.length + 1) c 70 (by unfold maxLen; omega)
    obtain ⟨cc, hcc⟩ : ∃ cc, cc = grownCap w (H.length + 1) c 70 := ⟨_, rfl⟩
    rw [← hcc] at hr hge hcm
    obtain ⟨o, ho'⟩ : ∃ o, o = Obj.cells (((H.flatMap hcel) ++ hcel x).toArray ++ Builtin.zeroCells (Value.cells (.agg #[.int .i64 0, .int .u64 0])) (cc - (H.length + 1))) 70 := ⟨_, rfl⟩
    have hb : Below w.heap.size w (w.drew.alloc o) := (Below.refl _ _).drew.alloc (Nat.le_refl _) _
    have hnew : (w.drew.alloc o).heap[w.heap.size]? = some o := heap_alloc_new w.drew o
    have hU : RU [8] w (w.drew.alloc o) ρ (mark ρ w.heap.size 8) := (RU.below ho hb).mark (Nat.le_refl _) (heap_lt hnew)
    rw [← ho'] at hr
    rw [ho'] at hnew
    have hfl : ((H ++ [x]).flatMap hcel) = H.flatMap hcel ++ hcel x := by rw [List.flatMap_append]; simp
    have hzs : (Value.cells (.agg #[.int .i64 0, .int .u64 0])).size = 2 := by rfl
    refine ⟨_, _, _, _, hr, ⟨by simpa using hge, hcm, .inr ⟨w.heap.size, 0, rfl, mark_self, heap_lt (by rw [ho']; exact hnew), fun j y hj => ?_, fun j hj => ⟨?_, ?_⟩⟩⟩, hU⟩
    · rw [ho', cell_of_heap hnew, Nat.zero_add]
      rw [hfl] at hj
      rw [Array.getElem?_append_left (by simp only [List.size_toArray]; exact (List.getElem?_eq_some_iff.1 hj).1), List.getElem?_toArray]
      exact hj
    · rw [ho', cell_of_heap hnew, Nat.zero_add, Array.getElem?_eq_getElem]
      · rfl
      · rw [Array.size_append, List.size_toArray, List.length_append, hlen, size_zeroCells, hzs]
        simp [hcel]
        omega
    · rw [ho', frozen_of_heap hnew]
end
end Go.Proofs.Ytlhobbfncjjeaaa
namespace Go.Proofs.Ytlhobbfncjjeaaa
open Go.RowKit
theorem cnext_cons (x : Str × Str) (C : Cont) (key : Str) (after : Bool) : cnext (x :: C) key after = if (if after then slt key x.1 else sle key x.1) then some x else cnext C key after := by
  unfold cnext
  rw [List.find?_cons]
  cases after <;> simp <;> split <;> simp_all
/-- A pair, or none, as the document's Next hands it back. -/
def pairV (o : Option (Str × Str)) : Value := .tuple #[.agg #[.string (match o with | some p => p.1 | none => s0), .string (match o with | some p => p.2 | none => s0)], .bool o.isSome]
set_option maxRecDepth 100000 in
set_option maxHeartbeats 1000000 in
theorem r10next_any (a : Option Addr) (c : Nat) (C : Cont) (key : Str) (after : Bool) (w : World) (h : At w 2 pcel a c C) (hC : C.length ≤ 100000) (hkm : key.size ≤ maxLen) :
    Calls Try.prog 62 #[.slice a C.length c, .string key, .bool after] w fun e w' => e = .returned (pairV (cnext C key after)) ∧ Below w.heap.size w w' := by
  have hpc := Lib.hid fun i x hx => pair_cells h (i := i) (x := x) hx
  have hle := Lib.hid fun x W => less_any x key (.inr hkm) W
  clear h hkm
  obtain ⟨n, hn⟩ : ∃ n, n = C.length := ⟨_, rfl⟩
  rw [← hn] at hC ⊢
  replace hn := Lib.hid hn
  go_enter Try.func62, Try.ntmps62
  go_wp2_with fail
  go_loopg [8] n (fun gk v wr => ∃ k : Nat, gk = n - k ∧ k ≤ n ∧ v = .int .i64 k ∧ cnext C key after = cnext (C.drop k) key after ∧ Below w.heap.size w wr ∧ wr.heap[w.heap.size]? = some (.cells #[.string s0, .string s0] 101))
  case atStart => exact ⟨0, rfl, by omega, rfl, by simp, (Below.refl _ _).alloc (Nat.le_refl _) _, heap_alloc_new _ _⟩
  case round =>
    obtain ⟨k, rfl, hk, rfl, hg, hB, hbx⟩ := hrel
    by_cases hlt : k < n
    · obtain ⟨x, hx⟩ : ∃ x, C[k]? = some x := ⟨_, List.getElem?_eq_getElem (by have := hn.out; omega)⟩
      obtain ⟨b, o, rfl, hb1, hl1, hc1, k0, k1⟩ := hpc.out k x hx
      have hd : C.drop k = x :: C.drop (k + 1) := by
        obtain ⟨h1, h2⟩ := List.getElem?_eq_some_iff.1 hx
        rw [List.drop_eq_getElem_cons h1, h2]
      rw [hd, cnext_cons] at hg
      have hA2 : (k : Int) < (n : Int) := by omega
      have hA3 : (0 : Int) ≤ (k : Int) := by omega
      have hw1 : IntKind.i64.wrap ((k : Int) + 1) = (k : Int) + 1 := IntWalk.i64_in _ (by omega)
      obtain ⟨p, q⟩ := x
      simp only at k0 k1 hg
      have hj := Lib.hid fun W (hW : Below w.heap.size w W) => And.intro (keep hW k0) (keep hW k1)
      have j0 := keep hB k0
      have j1 := keep hB k1
      have hq := block_lt_of_cell j0
      have hcl := Lib.hid (hle.out p wr)
      have hst := beq_str p key
      by_cases hsk : (slt p key || (after && decide (p = key))) = true
      · have hres : Hid (cnext C key after = cnext (C.drop (k + 1)) key after) := Lib.hid (by
          rw [hg, if_neg]
          intro hh
          cases after with
          | true =>
            simp at hh hsk
            rcases hsk with h1 | h1
            · rw [slt_asymm h1] at hh; cases hh
            · rw [h1, slt_irrefl] at hh; cases hh
          | false =>
            simp at hh hsk
            rw [sle_iff.1 hh] at hsk; cases hsk)
        replace hB := Lib.hid hB
        replace hbx := Lib.hid hbx
        clear hg hx hd k0 k1
        go_upto_region 4 with fail
        go_cut [33] (fun v wz => v = .bool true ∧ Below wr.heap.size wr wz)
        case first =>
          cases hs : slt p key with
          | true =>
            rw [hs] at hcl
            clear hsk hst
            go_wp2_with fail
            refine hcl.out.mono ?_
            rintro e w3 ⟨rfl, hb3⟩
            replace hb3 := Lib.hid hb3
            go_wp2_with fail
            go_meet
            exact ⟨rfl, hb3.out⟩
          | false =>
            rw [hs] at hcl hsk
            have haf : after = true := by cases after <;> simp at hsk <;> rfl
            have hpk : p = key := by cases after <;> simp at hsk <;> exact hsk
            subst haf
            rw [decide_eq_true hpk] at hst
            clear hsk hpk
            have hj2 := Lib.hid fun W (hb : Below wr.heap.size wr W) => hj.out W (hB.out.trans (hb.mono hB.out.size))
            go_wp2_with fail
            refine hcl.out.mono ?_
            rintro e w3 ⟨rfl, hb3⟩
            obtain ⟨i0, i1⟩ := hj2.out w3 hb3
            have hq3 := block_lt_of_cell i0
            replace hb3 := Lib.hid hb3
            go_wp2_with fail
            go_meet
            exact ⟨by simp, hb3.out⟩
        case rest =>
          obtain ⟨rfl, hb7⟩ := hcut
          have hB7 := Lib.hid (hB.out.trans (hb7.mono hB.out.size))
          have hbx7 := Lib.hid (Below.heap' hb7 hbx.out)
          clear hb7 j0 j1 hcl hst hq
          go_wp2_with fail
          go_roundg (n - (k + 1))
          case rel => exact ⟨k + 1, rfl, by omega, by go_num, hres.out, hB7.out, hbx7.out⟩
          case measure => omega
      · have hs : slt p key = false := by
          cases hs : slt p key
          · rfl
          · simp [hs] at hsk
        rw [hs] at hcl
        have hna : after = true → (p.toList == key.toList) = false := fun h => by
          rw [hst]
          subst h
          simp [hs] at hsk
          exact decide_eq_false hsk
        have hres : Hid (cnext C key after = some (p, q)) := Lib.hid (by
          rw [hg, if_pos]
          cases after with
          | true =>
            simp [hs] at hsk
            simp
            cases h1 : slt key p
            · exact absurd (slt_eq hs h1) hsk
            · rfl
          | false =>
            simp
            exact sle_iff.2 hs)
        replace hB := Lib.hid hB
        replace hbx := Lib.hid hbx
        clear hg hx hd k0 k1 hst
        go_upto_region 4 with fail
        go_cut [33] (fun v wz => v = .bool false ∧ Below wr.heap.size wr wz)
        case first =>
          cases after with
          | true =>
            have hst := hna rfl
            clear hsk hna
            have hj2 := Lib.hid fun W (hb : Below wr.heap.size wr W) => hj.out W (hB.out.trans (hb.mono hB.out.size))
            go_wp2_with fail
            refine hcl.out.mono ?_
            rintro e w3 ⟨rfl, hb3⟩
            obtain ⟨i0, i1⟩ := hj2.out w3 hb3
            have hq3 := block_lt_of_cell i0
            replace hb3 := Lib.hid hb3
            go_wp2_with fail
            go_meet
            exact ⟨by simp, hb3.out⟩
          | false =>
            clear hsk hna
            go_wp2_with fail
            refine hcl.out.mono ?_
            rintro e w3 ⟨rfl, hb3⟩
            replace hb3 := Lib.hid hb3
            go_wp2_with fail
            go_meet
            exact ⟨by simp, hb3.out⟩
        case rest =>
          obtain ⟨rfl, hb7⟩ := hcut
          have hB7 := hB.out.trans (hb7.mono hB.out.size)
          obtain ⟨i0, i1⟩ := hj.out _ hB7
          have hq3 := block_lt_of_cell i0
          have hbx7 := Below.heap' hb7 hbx.out
          have f0 := frozen_of_heap hbx7 0
          have f1 := frozen_of_heap hbx7 1
          have c0 : _ = some (Value.string s0) := cell_of_heap hbx7 0
          have c1 : _ = some (Value.string s0) := cell_of_heap hbx7 1
          have hqx := heap_lt hbx7
          replace hbx7 := Lib.hid hbx7
          replace hB7 := Lib.hid hB7
          clear hb7 j0 j1 hcl hq hsk hna
          go_wp2_with fail
          refine bodyPost_ret (v := .tuple #[.agg #[.string p, .string q], .bool true]) (by simp [results, Try.results62, go_sem, c0, c1]) rfl ⟨by rw [hres.out]; rfl, ?_⟩
          exact hB7.out.trans (Upd.below (S := [w.heap.size]) (((Upd.refl _ _).setCell (by simp) _).setCell (by simp) _) hB7.out.size (by simp))
    · obtain rfl : k = n := by omega
      have hres : cnext C key after = none := by
        rw [hg, List.drop_eq_nil_of_le (by have := hn.out; omega)]
        rfl
      replace hres := Lib.hid hres
      have f0 := frozen_of_heap hbx 0
      have f1 := frozen_of_heap hbx 1
      have c0 : wr.cell? ⟨w.heap.size, 0, none⟩ = some (.string s0) := by rw [cell_of_heap hbx]; rfl
      have c1 : wr.cell? ⟨w.heap.size, 1, none⟩ = some (.string s0) := by rw [cell_of_heap hbx]; rfl
      have hqx := heap_lt hbx
      replace hB := Lib.hid hB
      clear hg hbx
      go_wp2_with fail
      refine bodyPost_ret (v := .tuple #[.agg #[.string ⟨#[]⟩, .string ⟨#[]⟩], .bool false]) (by simp [results, Try.results62, go_sem, c0, c1]) rfl ⟨by rw [hres.out]; rfl, ?_⟩
      exact hB.out.trans (Upd.below (S := [w.heap.size]) (((Upd.refl _ _).setCell (by simp) _).setCell (by simp) _) hB.out.size (by simp))
end Go.Proofs.Ytlhobbfncjjeaaa
namespace Go.Proofs.Ytlhobbfncjjeaaa
open Go.RowKit
theorem cs_put {C : Cont} (h : CSort C) (k v : Str) : CSort (cput C k v) := by
  unfold cput CSort
  refine List.pairwise_append.2 ⟨List.Pairwise.sublist List.filter_sublist h, List.pairwise_cons.2 ⟨fun p hp => (List.mem_filter.1 hp).2, List.Pairwise.sublist List.filter_sublist h⟩, fun p hp q hq => ?_⟩
  have h1 := (List.mem_filter.1 hp).2
  rcases List.mem_cons.1 hq with rfl | hq
  · exact h1
  · exact slt_trans h1 (List.mem_filter.1 hq).2
theorem cs_del {C : Cont} (h : CSort C) (k : Str) : CSort (cdel C k) := List.Pairwise.sublist List.filter_sublist h
/-- The law's own blocks. -/
structure LS (w : World) (ρ : Nat → Nat) (xb p t ai : Nat) (K : List (Nat × Obj)) (C : Cont) (xd : Bool) (oa : Option Addr) (oc : Nat) (H : List Hd) (wa : Option Addr) (wc : Nat) : Prop where
  xr : ρ xb = 7
  xk : w.heap[xb]? = some (.cells #[.pointer (some ⟨p, 0, none⟩), .pointer (some ⟨t, 0, none⟩), .pointer (some ⟨ai, 0, none⟩), .slice oa H.length oc, .slice wa C.length wc, .bool xd] 78)
  oth : Oth w ρ oa oc H
  kp : Kp w ρ wa wc C
  kk : ∀ y, y ∈ K → ρ y.1 = 0 ∧ w.heap[y.1]? = some y.2
def PTr (w : World) (ρ : Nat → Nat) (P : Nat × Nat × Nat) (free : List Bool) (D : List ArD) (t : Nat) (d dI : ArD) (c0 k : Nat) (T : Cont) (dr : Bool) : Prop :=
  (dr = false ∧ ∃ Ls r, Tr w ρ P D 4 0 t d Ls r T.length ∧ Slim Ls ∧ content Ls = T ∧ leaves Ls ≤ k + 1 ∧ free.count true + nodes Ls + dI.A.L.length = c0) ∨ (dr = true ∧ Gone w ρ P D 4 0 t d ∧ T = [] ∧ free.count true + dI.A.L.length = c0)
structure PX (w0 w : World) (xb p t ai : Nat) (K : List (Nat × Obj)) (c0 k : Nat) (C T : Cont) (dr xd : Bool) (ρ : Nat → Nat) (P : Nat × Nat × Nat) (gens : List Int) (free : List Bool) (D : List ArD) (d dI : ArD) (oa : Option Addr) (oc : Nat) (H : List Hd) (wa : Option Addr) (wc : Nat) : Prop where
  h1 : P.1 = p ∧ gens.length = c0
  bw : BW w0 w ρ P gens free D
  dl : D.length = 2
  hd : D[0]? = some d
  hI : D[1]? = some dI ∧ dI.ta = 119 ∧ dI.tc = 148 ∧ dI.A.a = ai
  tr : PTr w ρ P free D t d dI c0 k T dr
  sep : Sep D 0 d
  ct : CSort T ∧ T.length ≤ k
  cc : CSort C ∧ C.length ≤ k
  hl : H.length ≤ k
  ls : LS w ρ xb p t ai K C xd oa oc H wa wc
def PY (w0 w : World) (xb p t ai : Nat) (K : List (Nat × Obj)) (c0 k : Nat) (C T : Cont) (dr xd : Bool) : Prop := ∃ ρ P gens free D d dI oa oc H wa wc, PX w0 w xb p t ai K c0 k C T dr xd ρ P gens free D d dI oa oc H wa wc
section
variable {w0 w w' : World} {xb p t ai c0 k : Nat} {K : List (Nat × Obj)} {C T : Cont} {dr xd : Bool} {ρ ρ' : Nat → Nat} {P : Nat × Nat × Nat} {gens : List Int} {free free' : List Bool} {D D' : List ArD} {d dI : ArD} {oa : Option Addr} {oc : Nat} {H : List Hd} {wa : Option Addr} {wc : Nat} {rs : List Nat}
theorem LS.ru (h : LS w ρ xb p t ai K C xd oa oc H wa wc) (hu : RU rs w w' ρ ρ') (h0 : 0 ∉ rs) (h7 : 7 ∉ rs) (h8 : 8 ∉ rs) : LS w' ρ' xb p t ai K C xd oa oc H wa wc :=
  ⟨by rw [hu.role _ (heap_lt h.xk)]; exact h.xr, hu.heap h.xk (by rw [h.xr]; exact h7), h.oth.ru hu h8, h.kp.ru hu h0, fun y hy => ⟨by rw [hu.role _ (heap_lt (h.kk y hy).2)]; exact (h.kk y hy).1, hu.heap (h.kk y hy).2 (by rw [(h.kk y hy).1]; exact h0)⟩⟩
theorem Gone.inD (h : Gone w ρ P D 4 0 t d) (hd : D'[0]? = some d) : Gone w ρ P D' 4 0 t d := ⟨hd, h.ta, h.tc, h.rt4, h.rol, h.blk, h.emp⟩
theorem PTr.ru (h : PTr w ρ P free D t d dI c0 k T dr) (hu : RU rs w w' ρ ρ') (h4 : 4 ∉ rs) (h6 : 6 ∉ rs) : PTr w' ρ' P free D t d dI c0 k T dr := by
  rcases h with ⟨h1, Ls, r, h2, h3⟩ | ⟨h1, h2, h3⟩
  · exact .inl ⟨h1, Ls, r, h2.ru hu h6 h4, h3⟩
  · exact .inr ⟨h1, h2.ru hu h4, h3⟩
theorem PTr.up {k' : Nat} (h : PTr w ρ P free D t d dI c0 k T dr) (hk : k ≤ k') : PTr w ρ P free D t d dI c0 k' T dr := by
  rcases h with ⟨h1, Ls, r, h2, h3, h4, h5, h6⟩ | h
  · exact .inl ⟨h1, Ls, r, h2, h3, h4, by omega, h6⟩
  · exact .inr h
theorem PX.below (h : PX w0 w xb p t ai K c0 k C T dr xd ρ P gens free D d dI oa oc H wa wc) (hb : Below w.heap.size w w') : PX w0 w' xb p t ai K c0 k C T dr xd ρ P gens free D d dI oa oc H wa wc :=
  have hu : RU [] w w' ρ ρ := RU.below h.bw.ro hb
  ⟨h.h1, h.bw.below hb, h.dl, h.hd, h.hI, h.tr.ru hu (by simp) (by simp), h.sep, h.ct, h.cc, h.hl, h.ls.ru hu (by simp) (by simp) (by simp)⟩
theorem PY.below (h : PY w0 w xb p t ai K c0 k C T dr xd) (hb : Below w.heap.size w w') : PY w0 w' xb p t ai K c0 k C T dr xd := by
  obtain ⟨ρ, P, gens, free, D, d, dI, oa, oc, H, wa, wc, h⟩ := h
  exact ⟨ρ, P, gens, free, D, d, dI, oa, oc, H, wa, wc, h.below hb⟩
theorem PY.up {k' : Nat} (h : PY w0 w xb p t ai K c0 k C T dr xd) (hk : k ≤ k') : PY w0 w xb p t ai K c0 k' C T dr xd := by
  obtain ⟨ρ, P, gens, free, D, d, dI, oa, oc, H, wa, wc, h⟩ := h
  exact ⟨ρ, P, gens, free, D, d, dI, oa, oc, H, wa, wc, h.h1, h.bw, h.dl, h.hd, h.hI, h.tr.up hk, h.sep, ⟨h.ct.1, by have := h.ct.2; omega⟩, ⟨h.cc.1, by have := h.cc.2; omega⟩, by have := h.hl; omega, h.ls⟩
theorem PY.bel (h : PY w0 w xb p t ai K c0 k C T dr xd) : Below w0.heap.size w0 w := by
  obtain ⟨ρ, P, gens, free, D, d, dI, oa, oc, H, wa, wc, h⟩ := h
  exact h.bw.ro.bel
/-- What the law's struct holds. -/
theorem PY.cells (h : PY w0 w xb p t ai K c0 k C T dr xd) : ∃ oa oc hn wa wc, (w.cell? ⟨xb, 0, none⟩ = some (.pointer (some ⟨p, 0, none⟩)) ∧ w.cell? ⟨xb, 1, none⟩ = some (.pointer (some ⟨t, 0, none⟩)) ∧ w.cell? ⟨xb, 2, none⟩ = some (.pointer (some ⟨ai, 0, none⟩)) ∧ w.cell? ⟨xb, 3, none⟩ = some (.slice oa hn oc) ∧ w.cell? ⟨xb, 4, none⟩ = some (.slice wa C.length wc) ∧ w.cell? ⟨xb, 5, none⟩ = some (.bool xd) ∧ xb < w.heap.size) ∧ (∀ i, w.frozen? ⟨xb, i, none⟩ = false) ∧ At w 2 pcel wa wc C := by
  obtain ⟨ρ, P, gens, free, D, d, dI, oa, oc, H, wa, wc, h⟩ := h
  refine ⟨oa, oc, H.length, wa, wc, ⟨?_, ?_, ?_, ?_, ?_, ?_, heap_lt h.ls.xk⟩, fun i => frozen_of_heap h.ls.xk i, h.ls.kp.1⟩ <;> rw [cell_of_heap h.ls.xk] <;> rfl
/-- The tree turned, by steps that leave the law's blocks. -/
theorem PX.tree (h : PX w0 w xb p t ai K c0 k C T dr xd ρ P gens free D d dI oa oc H wa wc) {gens' : List Int} {d' : ArD} {k' : Nat} {T' : Cont} {dr' : Bool} (hk : k ≤ k') (hg : gens'.length = c0) (hB : BW w0 w' ρ' P gens' free' D') (hd : D'[0]? = some d') (hs : D'.length = D.length ∧ ∀ j, j ≠ 0 → D'[j]? = D[j]?) (hsep : Sep D' 0 d')
    (htr : PTr w' ρ' P free' D' t d' dI c0 k' T' dr') (hct : CSort T' ∧ T'.length ≤ k') (hu : RU rs w w' ρ ρ') (h0 : 0 ∉ rs) (h7 : 7 ∉ rs) (h8 : 8 ∉ rs) : PY w0 w' xb p t ai K c0 k' C T' dr' xd :=
  ⟨ρ', P, gens', free', D', d', dI, oa, oc, H, wa, wc, ⟨h.h1.1, hg⟩, hB, by rw [hs.1]; exact h.dl, hd, ⟨by rw [hs.2 1 (by omega)]; exact h.hI.1, h.hI.2⟩, htr, hsep, hct, ⟨h.cc.1, by have := h.cc.2; omega⟩, by have := h.hl; omega, h.ls.ru hu h0 h7 h8⟩
/-- Free, and a Put that is tried behind it. -/
theorem PY.put (h : PY w0 w xb p t ai K c0 k C T false xd) (hk : k ≤ 300) (key value : Str) : ∃ fr : Nat, (∀ W, Below w.heap.size w W → Calls Try.prog 31 #[.pointer (some ⟨p, 0, none⟩)] W fun e w' => e = .returned (.int .i64 fr) ∧ W = w') ∧
    ∀ W, Below w.heap.size w W → Calls Try.prog 25 #[.pointer (some ⟨t, 0, none⟩), .string key, .string value] W fun e w' =>
      (e = .returned (.tuple #[.string ((cget T key).getD s0), .bool (cget T key).isSome, .int .i64 0]) ∧ PY w0 w' xb p t ai K c0 (k + 1) C (cput T key value) false xd) ∨
      ((cget T key).isSome = false ∧ fr < 20 ∧ e = .returned (.tuple #[.string s0, .bool false, .int .i64 5]) ∧ Below w.heap.size w w') := by
  obtain ⟨ρ, P, gens, free, D, d, dI, oa, oc, H, wa, wc, h⟩ := h
  rcases h.tr with ⟨_, Ls, r, h2, h3, h4, h5, h6⟩ | ⟨hh, _⟩
  rotate_left
  · cases hh
  refine ⟨free.count true, fun W hW => ?_, fun W hW => ?_⟩
  · obtain ⟨pa, g, f⟩ := P
    have hp := pFree_any pa g f gens free W (h.bw.below hW).ars.pool.1
    have h11 := h.h1.1
    simp only at h11
    subst h11
    exact hp
  · obtain ⟨g1, g2⟩ := TreeIs.hll h2.tow h2.thk h5 (by omega)
    have hrm := need_le (Ls := Ls) key
    obtain ⟨s1, s2, s3⟩ := h2.tow.size h2.thk
    have hll : Ls.length - 1 < 9 := (Nat.pow_lt_pow_iff_right (a := 2) (by omega)).1 (Nat.lt_of_le_of_lt (Nat.le_trans s2 h5) (by omega))
    have hc2 := h.ct.2
    have hxW := h.below hW
    refine ((h2.below h.bw hW).put hxW.bw h3 g1 (by omega) key value).mono ?_
    rintro e w' (⟨_, he, ρ', D', d', free', Ls', r', q1, q2, q3, q4, q5, q6, q7, q8, q9, q10, q11, q12⟩ | ⟨q1, q2, q3, q4⟩)
    · rw [h4] at he q4 q5
      have hs : CSort T := h.ct.1
      have hlen := cput_len hs key value
      have hls : (cput T key value).length ≤ k + 1 := by rw [hlen]; split <;> omega
      refine .inl ⟨he, hxW.tree (k' := k + 1) (by omega) h.h1.2 q1 q4.hd ⟨q9.1, q9.2.1⟩ (h.sep.same h.hd q4.hd q9) (.inl ⟨rfl, Ls', r', ?_, q6, q5, by omega, by omega⟩) ⟨cs_put hs key value, hls⟩ q2 (by simp) (by simp) (by simp)⟩
      rw [hlen]
      exact q4
    · rw [h4] at q1
      exact .inr ⟨q1, by omega, q3, hW.trans (q4.mono hW.size)⟩
theorem PY.putG (h : PY w0 w xb p t ai K c0 k C T true xd) (key value : Str) : (∃ fr : Nat, Calls Try.prog 31 #[.pointer (some ⟨p, 0, none⟩)] w fun e w' => e = .returned (.int .i64 fr) ∧ w = w') ∧
    Calls Try.prog 25 #[.pointer (some ⟨t, 0, none⟩), .string key, .string value] w fun e w' => e = .returned (.tuple #[.string s0, .bool false, .int .i64 8]) ∧ Below w.heap.size w w' := by
  obtain ⟨ρ, P, gens, free, D, d, dI, oa, oc, H, wa, wc, h⟩ := h
  rcases h.tr with ⟨hh, _⟩ | ⟨_, h2, h3, h4⟩
  · cases hh
  refine ⟨⟨free.count true, ?_⟩, h2.put key value⟩
  obtain ⟨pa, g, f⟩ := P
  have hp := pFree_any pa g f gens free w h.bw.ars.pool.1
  have h11 := h.h1.1
  simp only at h11
  subst h11
  exact hp
theorem PY.delete (h : PY w0 w xb p t ai K c0 k C T dr xd) (hk : k ≤ 300) (key : Str) :
    Calls Try.prog 26 #[.pointer (some ⟨t, 0, none⟩), .string key] w fun e w' => e = .returned (.tuple #[.string ((cget T key).getD s0), .bool (cget T key).isSome]) ∧ PY w0 w' xb p t ai K c0 k C (cdel T key) dr xd := by
  obtain ⟨ρ, P, gens, free, D, d, dI, oa, oc, H, wa, wc, h⟩ := h
  rcases h.tr with ⟨rfl, Ls, r, h2, h3, h4, h5, h6⟩ | ⟨rfl, h2, rfl, h4⟩
  · have hs : CSort T := h.ct.1
    obtain ⟨l1, l2⟩ := cdel_len hs key
    have hc2 := h.ct.2
    refine (h2.delete h.bw (slim_flat h3) (TreeIs.hll h2.tow h2.thk h5 (by omega)).1 (by omega) key (by rw [h4]; exact l2)).mono ?_
    rintro e w' ⟨he, ρ', D', d', Ls', q1, q2, q3, q4, q5, q6, q7, q8, q9, q10⟩
    rw [h4] at he q2 q3
    refine ⟨he, h.tree (Nat.le_refl k) h.h1.2 q1 q2.hd ⟨q7.1, q7.2.1⟩ (h.sep.same h.hd q2.hd q7) (.inl ⟨rfl, Ls', r, by rw [l1]; exact q2, q4 h3, q3, by omega, by omega⟩) ⟨cs_del hs key, ?_⟩ q5 (by simp) (by simp) (by simp)⟩
    rw [l1]; split <;> omega
  · refine (h2.delete key).mono ?_
    rintro e w' ⟨he, hb⟩
    exact ⟨he, _, _, _, _, _, _, _, _, _, _, _, _, h.below hb⟩
theorem PY.get (h : PY w0 w xb p t ai K c0 k C T dr xd) (key : Str) :
    Calls Try.prog 14 #[.pointer (some ⟨t, 0, none⟩), .string key, .nilFunc] w fun e w' => e = .returned (.tuple #[.string ((cget T key).getD s0), .bool (cget T key).isSome, .bool dr]) ∧ Below w.heap.size w w' := by
  obtain ⟨ρ, P, gens, free, D, d, dI, oa, oc, H, wa, wc, h⟩ := h
  rcases h.tr with ⟨rfl, Ls, r, h2, h3, h4, h5, h6⟩ | ⟨rfl, h2, rfl, h4⟩
  · have := h2.get h.bw (slim_flat h3) key
    rw [h4] at this
    exact this
  · exact h2.get h.bw key
theorem PY.next (h : PY w0 w xb p t ai K c0 k C T dr xd) (key : Str) (after : Bool) :
    Calls Try.prog 17 #[.pointer (some ⟨t, 0, none⟩), .string key, .bool after, .nilFunc] w fun e w' => e = .returned (.tuple #[.string (((cnext T key after).map (·.1)).getD s0), .string (((cnext T key after).map (·.2)).getD s0), .bool (cnext T key after).isSome, .bool dr]) ∧ Below w.heap.size w w' := by
  obtain ⟨ρ, P, gens, free, D, d, dI, oa, oc, H, wa, wc, h⟩ := h
  rcases h.tr with ⟨rfl, Ls, r, h2, h3, h4, h5, h6⟩ | ⟨rfl, h2, rfl, h4⟩
  · have := h2.next h.bw (slim_flat h3) key after
    rw [h4] at this
    refine this.mono ?_
    rintro e w' ⟨rfl, hb⟩
    refine ⟨?_, hb⟩
    cases cnext T key after <;> rfl
  · exact h2.next h.bw key after
theorem PY.drop (h : PY w0 w xb p t ai K c0 k C T dr xd) (hk : k ≤ 300) : Calls Try.prog 32 #[.pointer (some ⟨t, 0, none⟩)] w fun e w' => e = .returned (.tuple #[]) ∧ PY w0 w' xb p t ai K c0 k C [] true xd := by
  obtain ⟨ρ, P, gens, free, D, d, dI, oa, oc, H, wa, wc, h⟩ := h
  rcases h.tr with ⟨rfl, Ls, r, h2, h3, h4, h5, h6⟩ | ⟨rfl, h2, rfl, h4⟩
  · refine (h2.drop hands_ok h.bw h.sep (TreeIs.hll h2.tow h2.thk h5 (by omega)).2).mono ?_
    rintro e w' ⟨he, gens', free', D', d', q1, q2, q3, q4, q5, q6⟩
    refine ⟨he, h.tree (Nat.le_refl k) (by rw [q3]; exact h.h1.2) q1 q2.hd q5 ?_ (.inr ⟨rfl, q2, rfl, by omega⟩) ⟨List.Pairwise.nil, Nat.zero_le _⟩ q6 (by simp) (by simp) (by simp)⟩
    intro j dj e' x hj hD he' hx
    rw [q2.emp] at hx
    cases hx
  · refine h2.drop.mono ?_
    rintro e w' ⟨he, rfl⟩
    exact ⟨he, _, _, _, _, _, _, _, _, _, _, _, _, h⟩
theorem PX.iag (h : PX w0 w xb p t ai K c0 k C T dr xd ρ P gens free D d dI oa oc H wa wc) : ArenaG 119 148 w [P.1, P.2.1, P.2.2, dI.A.m] (some ⟨P.1, 0, none⟩) dI.A := by
  obtain ⟨pa, g, f⟩ := P
  have := h.bw.ars.gR h.hI.1
  rw [h.hI.2.1, h.hI.2.2.1] at this
  exact this
/-- Somebody else takes a slot. -/
theorem PY.ialloc (h : PY w0 w xb p t ai K c0 k C T dr xd) (x : Int) : Calls Try.prog 63 #[.pointer (some ⟨ai, 0, none⟩), .int .i64 x] w fun e w' =>
    (∃ h1 h2 : Int, e = .returned (.tuple #[.agg #[.int .i64 h1, .int .u64 h2], .int .i64 0]) ∧ PY w0 w' xb p t ai K c0 k C T dr xd) ∨ (e = .returned (.tuple #[.agg #[.int .i64 0, .int .u64 0], .int .i64 5]) ∧ PY w0 w' xb p t ai K c0 k C T dr xd) := by
  obtain ⟨ρ, P, gens, free, D, d, dI, oa, oc, H, wa, wc, h⟩ := h
  have hA := h.iag
  have hB := h.bw
  obtain ⟨pa, g, f⟩ := P
  have hd := h.hI.1
  have hp := hB.ars.pool.1
  have hai := h.hI.2.2.2
  subst hai
  by_cases hfr : true ∈ free
  · obtain ⟨n1, n3, n4, n5, n6, n7⟩ := hB.ars.neq hd
    have hpR := hB.ars.pR hd
    have hl : ∀ q, q ∈ [pa, g, f, dI.A.m] → q < w.heap.size := by
      intro q hq
      simp only [List.mem_cons, List.not_mem_nil, or_false] at hq
      rcases hq with rfl | rfl | rfl | rfl
      · exact heap_lt hp.2.2.2.2.2.1
      · exact heap_lt hp.2.2.2.2.2.2.1
      · exact heap_lt hp.2.2.2.2.2.2.2
      · exact heap_lt hA.2.2.1
    refine (AInt.gAlloc_some dI.A pa g f [pa, g, f, dI.A.m] gens free x w hA hp hfr n1 n3 n5 n6 n7 (by simp) hl (fun e he => idx_ne' ((hB.ars.ar 1 dI hd).th e he).2 hfr)).mono ?_
    rintro e w' ⟨he, hu, hp', b, hb, hA'⟩
    obtain ⟨q1, q2⟩ := hB.ars.alloc hB.ro hd hfr hu hp' hb (xs := [.int .i64 x]) (by rw [h.hI.2.1, h.hI.2.2.1]; exact hA')
    refine .inl ⟨_, _, he, mark ρ b (10 + 3 * 1), (pa, g, f), gens, _, _, d, _, oa, oc, H, wa, wc, h.h1, ⟨hB.ro.step q2 (by simp), q1⟩, by simp [h.dl], by rw [List.getElem?_set]; simpa using h.hd, ⟨get_set_self hd, h.hI.2⟩, ?_, ?_, h.ct, h.cc, h.hl, h.ls.ru q2 (by simp) (by simp) (by simp)⟩
    · have hcnt : (free.set (free.idxOf true) false).count true + 1 = free.count true := count_one hfr
      have hd0 : ∀ y, (D.set 1 y)[0]? = some d := fun y => by rw [List.getElem?_set]; simpa using h.hd
      rcases h.tr.ru q2 (by simp) (by simp) with ⟨rfl, Ls, r, h2, h3, h4, h5, h6⟩ | ⟨rfl, h2, h3, h4⟩
      · refine .inl ⟨rfl, Ls, r, h2.inD (hd0 _), h3, h4, h5, ?_⟩
        simp only [List.length_append, List.length_singleton]
        omega
      · refine .inr ⟨rfl, h2.inD (hd0 _), h3, ?_⟩
        simp only [List.length_append, List.length_singleton]
        omega
    · intro j dj e1 x1 hj hD he1 hx1
      have hfx := ((hB.ars.ar 0 d h.hd).th x1 hx1).2
      rcases get_set hD with ⟨rfl, rfl⟩ | ⟨hne, hD⟩
      · simp only [List.mem_append, List.mem_singleton] at he1
        rcases he1 with he1 | rfl
        · exact h.sep 1 dI e1 x1 (by omega) hd he1 hx1
        · exact fun e => idx_ne' hfx hfr e.symm
      · exact h.sep j dj e1 x1 hj hD he1 hx1
  · refine (AInt.gAlloc_full dI.A pa g f [pa, g, f, dI.A.m] gens free x w hA hp hfr).mono ?_
    rintro e w' ⟨he, hb⟩
    exact .inr ⟨he, _, _, _, _, _, _, _, _, _, _, _, _, h.below hb⟩
/-- .. gives it back. -/
theorem PX.irelease (h : PX w0 w xb p t ai K c0 k C T dr xd ρ P gens free D d dI oa oc H wa wc) (s g : Int) : Calls Try.prog 64 #[.pointer (some ⟨ai, 0, none⟩), .agg #[.int .i64 s, .int .u64 g]] w fun e w' => (∃ b, e = .returned (.bool b)) ∧ ∃ ρ P gens free D d dI, PX w0 w' xb p t ai K c0 k C T dr xd ρ P gens free D d dI oa oc H wa wc := by
  have hA := h.iag
  have hB := h.bw
  obtain ⟨pa, g', f⟩ := P
  have hd := h.hI.1
  have hp := hB.ars.pool.1
  have hai := h.hI.2.2.2
  subst hai
  by_cases hf : ∃ x, x ∈ dI.A.L ∧ (s = (x.slot : Int) ∧ x.gen = g)
  · obtain ⟨x, hx, hs1, hs2⟩ := hf
    have hAi := hB.ars.ar 1 dI hd
    have hfr := (hAi.th x hx).2
    obtain ⟨n1, n2, n3, n4, n5, n6⟩ := hB.ars.neq hd
    refine (AInt.gRelease_some dI.A pa g' f _ gens free s g x w hA hp hx hs1 hs2 hfr n1 n2 n3 n4 n5 n6 (by simp)).mono ?_
    rintro e w' ⟨he, hu, hp', hA'⟩
    have hne : ∀ j d' e, j ≠ 1 → D[j]? = some d' → e ∈ d'.A.L → e.slot ≠ x.slot := fun j d' e hj hD he hh => by
      have hj2 := (List.getElem?_eq_some_iff.1 hD).1
      have := h.dl
      have hj0 : j = 0 := by omega
      subst hj0
      rw [h.hd] at hD
      injection hD with hD
      subst hD
      exact h.sep 1 dI x e (by omega) hd hx he hh.symm
    obtain ⟨q1, q2⟩ := hB.ars.release hB.ro hd hx hne hu hp' (by rw [h.hI.2.1, h.hI.2.2.1]; exact hA')
    have hns : (dI.A.L.map AEnt.slot).Nodup := hA.2.2.2.1
    have hfl := filter_len hns hx
    have hct := count_set_true free x.slot hfr
    refine ⟨⟨_, he⟩, ρ, (pa, g', f), _, _, _, d, _, ⟨h.h1.1, by rw [List.length_set]; exact h.h1.2⟩, ⟨hB.ro.step q2 (by simp), q1⟩, by simp [h.dl], by rw [List.getElem?_set]; simpa using h.hd, ⟨get_set_self hd, h.hI.2⟩, ?_, ?_, h.ct, h.cc, h.hl, h.ls.ru q2 (by simp) (by simp) (by simp)⟩
    · have hd0 : ∀ y, (D.set 1 y)[0]? = some d := fun y => by rw [List.getElem?_set]; simpa using h.hd
      rcases h.tr.ru q2 (by simp) (by simp) with ⟨rfl, Ls, r, h2, h3, h4, h5, h6⟩ | ⟨rfl, h2, h3, h4⟩
      · refine .inl ⟨rfl, Ls, r, h2.inD (hd0 _), h3, h4, h5, ?_⟩
        simp only
        omega
      · refine .inr ⟨rfl, h2.inD (hd0 _), h3, ?_⟩
        simp only
        omega
    · intro j dj e1 x1 hj hD he1 hx1
      rcases get_set hD with ⟨rfl, rfl⟩ | ⟨hne, hD⟩
      · exact h.sep 1 dI e1 x1 (by omega) hd (List.mem_filter.1 he1).1 hx1
      · exact h.sep j dj e1 x1 hj hD he1 hx1
  · refine (AInt.gRelease_none dI.A _ _ s g w hA (fun x hx hh => hf ⟨x, hx, hh⟩)).mono ?_
    rintro e w' ⟨he, hb⟩
    exact ⟨⟨_, he⟩, _, _, _, _, _, _, _, h.below hb⟩
/-- How many slots are taken, by whom. -/
theorem PY.counts (h : PY w0 w xb p t ai K c0 k C T dr xd) (hc0 : c0 ≤ 4096) : ∃ n m : Nat, n + m ≤ 4096 ∧ ∀ W, Below w.heap.size w W →
    (Calls Try.prog 29 #[.pointer (some ⟨t, 0, none⟩)] W fun e w' => e = .returned (.int .i64 n) ∧ Below W.heap.size W w') ∧
    (Calls Try.prog 30 #[.pointer (some ⟨p, 0, none⟩)] W fun e w' => e = .returned (.int .i64 ((n + m : Nat) : Int)) ∧ Below W.heap.size W w') ∧
    (Calls Try.prog 37 #[.pointer (some ⟨ai, 0, none⟩)] W fun e w' => e = .returned (.int .i64 m) ∧ Below W.heap.size W w') := by
  obtain ⟨ρ, P, gens, free, D, d, dI, oa, oc, H, wa, wc, h⟩ := h
  have hlv : ∀ W, Below w.heap.size w W → (Calls Try.prog 37 #[.pointer (some ⟨ai, 0, none⟩)] W fun e w' => e = .returned (.int .i64 dI.A.L.length) ∧ Below W.heap.size W w') := fun W hW => by
    have := AInt.gLive dI.A _ _ W (h.below hW).iag
    rw [h.hI.2.2.2] at this
    exact this
  have hpl : ∀ W, Below w.heap.size w W → ∀ n : Nat, free.count true + n = c0 → (Calls Try.prog 30 #[.pointer (some ⟨p, 0, none⟩)] W fun e w' => e = .returned (.int .i64 (n : Int)) ∧ Below W.heap.size W w') := fun W hW n hn => by
    have h11 := h.h1
    have hB := (h.below hW).bw
    obtain ⟨pa, g, f⟩ := P
    obtain ⟨h11, h12⟩ := h11
    simp only at h11
    subst h11
    refine (pLive_any _ g f gens free W hB.ars.pool.1).mono ?_
    rintro e w' ⟨he, hb⟩
    have hl := hB.ars.pool.1.1
    refine ⟨?_, hb⟩
    rw [he]
    congr 2
    omega
  rcases h.tr with ⟨rfl, Ls, r, h2, h3, h4, h5, h6⟩ | ⟨rfl, h2, h3, h4⟩
  · exact ⟨nodes Ls, dI.A.L.length, by omega, fun W hW => ⟨(h2.below h.bw hW).slots (h.bw.below hW), hpl W hW _ (by omega), hlv W hW⟩⟩
  · refine ⟨0, dI.A.L.length, by omega, fun W hW => ⟨?_, hpl W hW _ (by omega), hlv W hW⟩⟩
    exact (h2.below h.bw hW).slots (h.bw.below hW)
/-- What the tree tells of all. -/
theorem PY.alls (h : PY w0 w xb p t ai K c0 k C T dr xd) (hk : k ≤ 300) : ∀ W, Below w.heap.size w W → Calls Try.prog 22 #[.pointer (some ⟨t, 0, none⟩)] W (AllEnd W T) ∧
    (Calls Try.prog 24 #[.pointer (some ⟨t, 0, none⟩)] W fun e w' => e = .returned (.int .i64 T.length) ∧ W = w') ∧
    (Calls Try.prog 19 #[.pointer (some ⟨t, 0, none⟩)] W fun e w' => e = .returned (.bool true) ∧ Below W.heap.size W w') := by
  obtain ⟨ρ, P, gens, free, D, d, dI, oa, oc, H, wa, wc, h⟩ := h
  intro W hW
  have hct := h.ct.2
  rcases h.tr with ⟨rfl, Ls, r, h2, h3, h4, h5, h6⟩ | ⟨rfl, h2, rfl, h4⟩
  · have h2' := h2.below h.bw hW
    have hB := h.bw.below hW
    have ha := h2'.all hB (slim_flat h3) (by rw [h4]; omega)
    rw [h4] at ha
    exact ⟨ha, h2'.len, h2'.check hB h3 (by have := (TreeIs.hll h2.tow h2.thk h5 (by omega)).2; omega) (by rw [h4]; omega) (by rw [h4])⟩
  · have h2' := h2.below h.bw hW
    exact ⟨h2'.allv, h2'.len, h2'.check (h.bw.below hW)⟩
/-! ### The law's struct is written -/
theorem PX.setX (h : PX w0 w xb p t ai K c0 k C T dr xd ρ P gens free D d dI oa oc H wa wc) (i : Nat) (v : Value) : RU [7] w (w.setCell ⟨xb, i, none⟩ v) ρ ρ ∧ BW w0 (w.setCell ⟨xb, i, none⟩ v) ρ P gens free D ∧ PTr (w.setCell ⟨xb, i, none⟩ v) ρ P free D t d dI c0 k T dr := by
  have hu : Upd [xb] w (w.setCell ⟨xb, i, none⟩ v) := (Upd.refl _ _).setCell (by simp) _
  have hU : RU [7] w (w.setCell ⟨xb, i, none⟩ v) ρ ρ := RU.upd h.bw.ro hu (fun k hk _ => by simp at hk; subst hk; simp [h.ls.xr])
  exact ⟨hU, ⟨h.bw.ro.step hU (by simp), h.bw.ars.ru hU (by simp)⟩, h.tr.ru hU (by simp) (by simp)⟩
theorem LS.kks (h : LS w ρ xb p t ai K C xd oa oc H wa wc) (hu : RU rs w w' ρ ρ') (h0 : 0 ∉ rs) : ∀ y, y ∈ K → ρ' y.1 = 0 ∧ w'.heap[y.1]? = some y.2 := fun y hy =>
  ⟨by rw [hu.role _ (heap_lt (h.kk y hy).2)]; exact (h.kk y hy).1, hu.heap (h.kk y hy).2 (by rw [(h.kk y hy).1]; exact h0)⟩
/-- A new block that nobody writes is kept in sight. -/
theorem PY.alloc (h : PY w0 w xb p t ai K c0 k C T dr xd) (o : Obj) : PY w0 (w.alloc o) xb p t ai (K ++ [(w.heap.size, o)]) c0 k C T dr xd := by
  obtain ⟨ρ, P, gens, free, D, d, dI, oa, oc, H, wa, wc, h⟩ := h
  have hfar := h.bw.ro.far w.heap.size (Nat.le_refl _)
  replace h := h.below ((Below.refl w.heap.size w).alloc (Nat.le_refl _) o)
  refine ⟨ρ, P, gens, free, D, d, dI, oa, oc, H, wa, wc, h.h1, h.bw, h.dl, h.hd, h.hI, h.tr, h.sep, h.ct, h.cc, h.hl, h.ls.xr, h.ls.xk, h.ls.oth, h.ls.kp, fun y hy => ?_⟩
  rcases List.mem_append.1 hy with hy | hy
  · exact h.ls.kk y hy
  · simp at hy
    subst hy
    exact ⟨hfar, heap_alloc_new _ _⟩
/-- A new block that a call or the law has made is kept in sight. -/
theorem PY.boxed (h : PY w0 w xb p t ai K c0 k C T dr xd) (hb : Below w.heap.size w w') {b : Nat} {o : Obj} (hbb : w.heap.size ≤ b) (hbo : w'.heap[b]? = some o) : PY w0 w' xb p t ai (K ++ [(b, o)]) c0 k C T dr xd := by
  obtain ⟨ρ, P, gens, free, D, d, dI, oa, oc, H, wa, wc, h⟩ := h
  have hfar := h.bw.ro.far b hbb
  replace h := h.below hb
  refine ⟨ρ, P, gens, free, D, d, dI, oa, oc, H, wa, wc, h.h1, h.bw, h.dl, h.hd, h.hI, h.tr, h.sep, h.ct, h.cc, h.hl, h.ls.xr, h.ls.xk, h.ls.oth, h.ls.kp, fun y hy => ?_⟩
  rcases List.mem_append.1 hy with hy | hy
  · exact h.ls.kk y hy
  · simp at hy
    subst hy
    exact ⟨hfar, hbo⟩
theorem PY.box (h : PY w0 w xb p t ai K c0 k C T dr xd) {y : Nat × Obj} (hy : y ∈ K) : w.heap[y.1]? = some y.2 := by
  obtain ⟨ρ, P, gens, free, D, d, dI, oa, oc, H, wa, wc, h⟩ := h
  exact (h.ls.kk y hy).2
theorem PY.keepK {K' : List (Nat × Obj)} (h : PY w0 w xb p t ai K c0 k C T dr xd) (hK : ∀ y, y ∈ K' → y ∈ K) : PY w0 w xb p t ai K' c0 k C T dr xd := by
  obtain ⟨ρ, P, gens, free, D, d, dI, oa, oc, H, wa, wc, h⟩ := h
  exact ⟨ρ, P, gens, free, D, d, dI, oa, oc, H, wa, wc, h.h1, h.bw, h.dl, h.hd, h.hI, h.tr, h.sep, h.ct, h.cc, h.hl, h.ls.xr, h.ls.xk, h.ls.oth, h.ls.kp, fun y hy => h.ls.kk y (hK y hy)⟩
/-- The document's pairs: a new row. -/
theorem PY.setW (h : PY w0 w xb p t ai K c0 k C T dr xd) {w1 : World} {a : Option Addr} {c : Nat} {C' : Cont} (hb : Below w.heap.size w w1) (hr : Row w.heap.size 101 2 pcel w1 (.slice a C'.length c) C') (hc : CSort C' ∧ C'.length ≤ k) : PY w0 (w1.setCell ⟨xb, 4, none⟩ (.slice a C'.length c)) xb p t ai K c0 k C' T dr xd := by
  obtain ⟨ρ, P, gens, free, D, d, dI, oa, oc, H, wa, wc, h⟩ := h
  have hfar := h.bw.ro.far
  have hxw := heap_lt h.ls.xk
  replace h := h.below hb
  obtain ⟨hU, hB, hT⟩ := h.setX 4 (.slice a C'.length c)
  refine ⟨ρ, P, gens, free, D, d, dI, oa, oc, H, a, c, h.h1, hB, h.dl, h.hd, h.hI, hT, h.sep, h.ct, hc, h.hl, h.ls.xr, ?_, h.ls.oth.ru hU (by simp), ?_, h.ls.kks hU (by simp)⟩
  · rw [heap_self, h.ls.xk]
    rfl
  · have hbk := row_bksT hr
    have hk1 : Kp w1 ρ a c C' := ⟨hr.at', fun b hb' => hfar b (hbk b hb')⟩
    exact hk1.ru hU (by simp)
theorem PY.setW0 (h : PY w0 w xb p t ai K c0 k C T dr xd) : PY w0 (w.setCell ⟨xb, 4, none⟩ (.slice none 0 0)) xb p t ai K c0 k [] T dr xd :=
  h.setW (a := none) (c := 0) (C' := []) (Below.refl _ _) (Row.nil pcel_len pcel_one _ _ _) ⟨List.Pairwise.nil, Nat.zero_le _⟩
theorem PY.setD (h : PY w0 w xb p t ai K c0 k C T dr xd) (b : Bool) : PY w0 (w.setCell ⟨xb, 5, none⟩ (.bool b)) xb p t ai K c0 k C T dr b := by
  obtain ⟨ρ, P, gens, free, D, d, dI, oa, oc, H, wa, wc, h⟩ := h
  obtain ⟨hU, hB, hT⟩ := h.setX 5 (.bool b)
  refine ⟨ρ, P, gens, free, D, d, dI, oa, oc, H, wa, wc, h.h1, hB, h.dl, h.hd, h.hI, hT, h.sep, h.ct, h.cc, h.hl, h.ls.xr, ?_, h.ls.oth.ru hU (by simp), h.ls.kp.ru hU (by simp), h.ls.kks hU (by simp)⟩
  rw [heap_self, h.ls.xk]
  rfl
/-- A handle is kept. -/
theorem PY.tell (h : PY w0 w xb p t ai K c0 k C T dr xd) (hk : k ≤ 300) : ∃ oa oc hn, w.cell? ⟨xb, 3, none⟩ = some (.slice oa hn oc) ∧ ∀ W, Below w.heap.size w W → ∀ (h1 h2 : Int) sb, W.heap[sb]? = some (.cells #[.int .i64 h1, .int .u64 h2] 70) →
    ∃ a' c' n' w', (Builtin.append_ #[76, 76] 76 #[.slice oa hn oc, .slice (some ⟨sb, 0, none⟩) 1 1]).run Try.prog W = .ok (.slice a' n' c') w' ∧ w'.frozen? ⟨xb, 3, none⟩ = false ∧ (∃ v, w'.cell? ⟨xb, 3, none⟩ = some v) ∧ xb < w'.heap.size ∧ PY w0 (w'.setCell ⟨xb, 3, none⟩ (.slice a' n' c')) xb p t ai K c0 (k + 1) C T dr xd := by
  obtain ⟨ρ, P, gens, free, D, d, dI, oa, oc, H, wa, wc, h⟩ := h
  refine ⟨oa, oc, H.length, by rw [cell_of_heap h.ls.xk]; rfl, fun W hW h1 h2 sb hs => ?_⟩
  replace h := h.below hW
  have hl := h.hl
  obtain ⟨a', c', w', ρ', hr, ho, hu⟩ := h.ls.oth.push h.bw.ro (by omega) (x := (h1, h2)) hs
  have hxk := hu.heap h.ls.xk (by rw [h.ls.xr]; simp)
  have hu2 : Upd [xb] w' (w'.setCell ⟨xb, 3, none⟩ (.slice a' (H.length + 1) c')) := (Upd.refl _ _).setCell (by simp) _
  have hxr : ρ' xb = 7 := by rw [hu.role _ (heap_lt h.ls.xk)]; exact h.ls.xr
  have hro := h.bw.ro.step hu (by simp)
  have hU : RU [7] w' (w'.setCell ⟨xb, 3, none⟩ (.slice a' (H.length + 1) c')) ρ' ρ' := RU.upd hro hu2 (fun k hk _ => by simp at hk; subst hk; simp [hxr])
  have hUU := (hu.mono (rs' := [8, 7]) (by simp)).trans (hU.mono (rs' := [8, 7]) (by simp))
  refine ⟨a', c', H.length + 1, w', hr, frozen_of_heap hxk _, ⟨_, cell_of_heap hxk 3⟩, heap_lt hxk, ρ', P, gens, free, D, d, dI, a', c', H ++ [(h1, h2)], wa, wc, h.h1, ⟨h.bw.ro.step hUU (by simp), h.bw.ars.ru hUU (by simp)⟩, h.dl, h.hd, h.hI, (h.tr.ru hUU (by simp) (by simp)).up (by omega), h.sep, ⟨h.ct.1, by have := h.ct.2; omega⟩, ⟨h.cc.1, by have := h.cc.2; omega⟩, by rw [List.length_append]; simp; omega, hxr, ?_, ho.ru hU (by simp), h.ls.kp.ru hUU (by simp), h.ls.kks hUU (by simp)⟩
  rw [heap_self, hxk, List.length_append]
  rfl
/-- The first handle, and what is left without it. -/
theorem PY.first (h : PY w0 w xb p t ai K c0 k C T dr xd) : ∃ oa oc hn, w.cell? ⟨xb, 3, none⟩ = some (.slice oa hn oc) ∧ hn ≤ k ∧ (0 < hn → ∃ b off h1 h2, oa = some ⟨b, off, none⟩ ∧ hn ≤ oc ∧ oc ≤ maxLen ∧ w.cell? ⟨b, off, none⟩ = some (.int .i64 h1) ∧ w.cell? ⟨b, off + 1, none⟩ = some (.int .u64 h2) ∧ b < w.heap.size) := by
  obtain ⟨ρ, P, gens, free, D, d, dI, oa, oc, H, wa, wc, h⟩ := h
  refine ⟨oa, oc, H.length, by rw [cell_of_heap h.ls.xk]; rfl, h.hl, fun hn => ?_⟩
  cases H with
  | nil => simp at hn
  | cons x H =>
    obtain ⟨b, off, e1, e2, e3, e4⟩ := h.ls.oth.first
    exact ⟨b, off, x.1, x.2, e1, h.ls.oth.le, h.ls.oth.mx, e2, e3, e4⟩
theorem PX.cell3 (h : PX w0 w xb p t ai K c0 k C T dr xd ρ P gens free D d dI oa oc H wa wc) : w.cell? ⟨xb, 3, none⟩ = some (.slice oa H.length oc) := by
  rw [cell_of_heap h.ls.xk]; rfl
/-- The first handle, and that it is given back. -/
theorem PY.five (h : PY w0 w xb p t ai K c0 k C T dr xd) : ∃ oa oc hn, w.cell? ⟨xb, 3, none⟩ = some (.slice oa hn oc) ∧ hn ≤ k ∧ (0 < hn → ∃ b off h1 h2, oa = some ⟨b, off, none⟩ ∧ hn ≤ oc ∧ oc ≤ maxLen ∧ (w.cell? ⟨b, off, none⟩ = some (.int .i64 h1) ∧ w.cell? ⟨b, off + 1, none⟩ = some (.int .u64 h2) ∧ b < w.heap.size) ∧
    ∀ W, Below w.heap.size w W → Calls Try.prog 64 #[.pointer (some ⟨ai, 0, none⟩), .agg #[.int .i64 h1, .int .u64 h2]] W fun e w' => (∃ b, e = .returned (.bool b)) ∧ PY w0 w' xb p t ai K c0 k C T dr xd ∧ w'.cell? ⟨xb, 2, none⟩ = some (.pointer (some ⟨ai, 0, none⟩)) ∧ w'.cell? ⟨xb, 3, none⟩ = some (.slice oa hn oc) ∧ w'.cell? ⟨b, off, none⟩ = some (.int .i64 h1) ∧ w'.cell? ⟨b, off + 1, none⟩ = some (.int .u64 h2)) := by
  obtain ⟨ρ, P, gens, free, D, d, dI, oa, oc, H, wa, wc, h⟩ := h
  refine ⟨oa, oc, H.length, h.cell3, h.hl, fun hn => ?_⟩
  cases H with
  | nil => simp at hn
  | cons x H =>
    obtain ⟨b, off, rfl, e2, e3, e4⟩ := h.ls.oth.first
    refine ⟨b, off, x.1, x.2, rfl, h.ls.oth.le, h.ls.oth.mx, ⟨e2, e3, e4⟩, fun W hW => ((h.below hW).irelease x.1 x.2).mono ?_⟩
    rintro e w' ⟨he, ρ', P', gens', free', D', d', dI', h'⟩
    obtain ⟨b', off', e1', e2', e3', e4'⟩ := h'.ls.oth.first
    injection e1' with e1'
    injection e1' with q1 q2
    subst q1 q2
    exact ⟨he, ⟨_, _, _, _, _, _, _, _, _, _, _, _, h'⟩, by rw [cell_of_heap h'.ls.xk]; rfl, h'.cell3, e2', e3'⟩
theorem PY.pop (h : PY w0 w xb p t ai K c0 k C T dr xd) {b off hn oc : Nat} (hc : w.cell? ⟨xb, 3, none⟩ = some (.slice (some ⟨b, off, none⟩) hn oc)) (hn0 : 0 < hn) :
    PY w0 (w.setCell ⟨xb, 3, none⟩ (.slice (if oc = 1 then some ⟨b, off, none⟩ else some ⟨b, off + 2, none⟩) (hn - 1) (oc - 1))) xb p t ai K c0 k C T dr xd := by
  obtain ⟨ρ, P, gens, free, D, d, dI, oa, oc', H, wa, wc, h⟩ := h
  have hcx : w.cell? ⟨xb, 3, none⟩ = some (.slice oa H.length oc') := by rw [cell_of_heap h.ls.xk]; rfl
  rw [hcx] at hc
  injection hc with hc
  injection hc with e1 e2 e3
  subst e1 e2 e3
  cases H with
  | nil => simp at hn0
  | cons x H =>
    obtain ⟨hU, hB, hT⟩ := h.setX 3 (.slice (if oc' = 1 then some ⟨b, off, none⟩ else some ⟨b, off + 2, none⟩) ((x :: H).length - 1) (oc' - 1))
    refine ⟨ρ, P, gens, free, D, d, dI, _, _, H, wa, wc, h.h1, hB, h.dl, h.hd, h.hI, hT, h.sep, h.ct, h.cc, by have := h.hl; simp at this; omega, h.ls.xr, ?_, h.ls.oth.pop.ru hU (by simp), h.ls.kp.ru hU (by simp), h.ls.kks hU (by simp)⟩
    rw [heap_self, h.ls.xk]
    rfl
end
end Go.Proofs.Ytlhobbfncjjeaaa
