/- The walk of Collect. -/
import Derived.Test.YtidiefcgepllmaaEpochColl
namespace Go.Proofs.Ytidiefcgepllmaa
open Go.RowKit
variable {σ : Type} {J : σ → List Nat → World → Prop} {R : Ret → σ → EpG → σ → EpG → List Ret → Prop} {A : Ret → Prop} {N : Nat} {ok : Nat → σ → EpG → Prop} {base e m : Nat}
def CollEnd (J : σ → List Nat → World → Prop) (R : Ret → σ → EpG → σ → EpG → List Ret → Prop) (base e m : Nat) (v : Value) (O : List Nat) (x : σ) (g : EpG) (L : List Ret) (w : World) (z : Ending) (w' : World) : Prop :=
  ∃ n kept later v' O' x' g', z = .returned (.int .i64 (n : Nat)) ∧ Coll R x g L x' g' kept later n ∧ EJ J base e m w' v' O' x' g' false (kept ++ later) ∧ Upd (foot e m v O) w w' ∧ Grw w (foot e m v O) (foot e m v' O')
def kvown_ne (v : Value) (q : Nat) : Prop := v.ownBlock ≠ some q
set_option maxRecDepth 100000 in
set_option maxHeartbeats 2000000 in
theorem epCollect_any (hC : Clo J R base e m A N ok) (x : σ) (g : EpG) (O : List Nat) (v : Value) (L : List Ret) (w : World) (h : EJ J base e m w v O x g false L) (hA : ∀ r, r ∈ L → A r) (hL : 2 * L.length ≤ N) (hN : N ≤ 500000) (hok0 : ok L.length x g) (hbase : base ≤ w.heap.size) :
    Calls Try.prog 14 #[.pointer (some ⟨e, 0, none⟩)] w (CollEnd J R base e m v O x g L w) := by
  obtain ⟨c0, c1, c2, c3, cf⟩ := h.ep.at'.cells
  obtain ⟨a, cap, hv⟩ := h.ep.row.shape
  have hel : e < w.heap.size := heap_lt h.ep.at'.blk
  have hmf : ∀ (fn : Fn) (first cap : Array Value) (w : World), (Instr.makeFunc fn first cap).run Try.prog w = .ok (.func fn first cap) w := fun _ _ _ _ => rfl
  have hnot : ∀ (x : Bool) (w : World), (Op.unary .not (.bool x)).run Try.prog w = .ok (.bool (!x)) w := fun _ _ => rfl
  subst hv
  have hI0 := CI.start hC h hbase
  replace hI0 := Lib.hid hI0
  replace h := Lib.hid h
  replace hA := Lib.hid hA
  replace hok0 := Lib.hid hok0
  go_enter_defers Try.func14, Try.ntmps14
  go_wp2_with fail
  clear c0 c1 c2 c3 cf
  go_loopg [4, 5, 31] L.length (fun gk kv nv iv wr => ∃ (i n : Nat) (kept later : List Ret) (lv : Value) (O' : List Nat) (x' : σ) (g' : EpG) (a4 : Option Addr) (c4 : Nat), gk = L.length - i ∧ i ≤ L.length ∧ iv = .int .i64 i ∧ nv = .int .i64 n ∧ kv = .slice a4 kept.length c4 ∧
    Coll R x g (L.take i) x' g' kept later n ∧ ok (L.length - i) x' g' ∧ CI J base e m w (foot e m (.slice a L.length cap) O) (.slice a L.length cap) L w.heap.size wr kv kept lv O' x' g' later)
  case atStart => exact ⟨0, 0, [], [], _, O, x, g, none, 0, rfl, Nat.zero_le _, rfl, rfl, rfl, .nil, hok0.out, hI0.out⟩
  case round =>
    obtain ⟨i, n, kept, later, lv, O', x', g', a4, c4, rfl, hi, rfl, rfl, rfl, hco, hok, hI⟩ := hrel
    replace hok := Lib.hid hok
    clear hI0
    have hlens := hco.len hC.app
    have htl : (L.take i).length = i := by simp; omega
    rw [htl] at hlens
    obtain ⟨hl1, hl2⟩ := hlens
    replace hco := Lib.hid hco
    have hbx : wr.cell? ⟨w.heap.size, 0, none⟩ = some (.pointer (some ⟨e, 0, none⟩)) := by rw [cell_of_heap hI.box]; rfl
    obtain ⟨c0, c1, c2, c3, cf⟩ := hI.ej.ep.at'.cells
    have hel' := heap_lt hI.ej.ep.at'.blk
    have hpl' := heap_lt hI.box
    clear htl
    by_cases hlt : i < L.length
    · have hx : L[i]? = some L[i] := List.getElem?_eq_getElem hlt
      generalize hre : L[i] = r at hx
      clear hre
      have hAr := hA.out r (List.mem_of_getElem? hx)
      obtain ⟨ab, cap', hav, hab1, hab2, hab3, hab4, hab5, _, hcells⟩ := hI.all.at hx
      obtain ⟨rfl, rfl⟩ : a = some ⟨ab, 0, none⟩ ∧ cap' = cap := by injection hav with h1 h2 h3; exact ⟨h1, h3.symm⟩
      have d0 := hcells 0 _ rfl
      have d1 := hcells 1 _ rfl
      rw [Nat.add_zero] at d0
      have htk : L.take (i + 1) = L.take i ++ [r] := by rw [List.take_add_one, hx]; rfl
      replace htk := Lib.hid htk
      have hB2 : Below wr.heap.size wr (wr.alloc (.cells #[.func (.func r.f) #[] r.caps, .int .u64 r.at'] 56)) := (Below.refl _ _).alloc (Nat.le_refl _) _
      have hI2 := hI.below hC hB2
      have hrp := Lib.hid (epripe_any base e m lv g'.S g'.c g'.now true later r.at' _ hI2.ej.ep)
      have hbs : base ≤ wr.heap.size := Nat.le_trans hI.siz hI.upd.size
      have hr0 : (wr.alloc (.cells #[.func (.func r.f) #[] r.caps, .int .u64 r.at'] 56)).heap[wr.heap.size]? = some (.cells #[.func (.func r.f) #[] r.caps, .int .u64 r.at'] 56) := heap_alloc_new _ _
      replace hr0 := Lib.hid hr0
      replace hI2 := Lib.hid hI2
      replace hx := Lib.hid hx
      clear hcells hav hB2 hI
      have hokk : Hid (ok (L.length - (i + 1) + 1) x' g') := Lib.hid (by rw [show L.length - (i + 1) + 1 = L.length - i by omega]; exact hok.out)
      by_cases hrip : ∀ y, y ∈ g'.S → r.at' < y.t
      · have hdr : decide (∀ y, y ∈ g'.S → r.at' < y.t) = true := decide_eq_true hrip
        rw [hdr] at hrp
        replace hrip := Lib.hid hrip
        clear hdr
        obtain ⟨al, cl, hlv⟩ := hI2.out.ej.ep.row.shape
        subst hlv
        have hn0 : n ≤ 500000 := by omega
        go_wp2_with fail
        refine hrp.out.mono ?_
        clear hrp
        rintro z w3 ⟨rfl, hb3⟩
        have hI3 := hI2.out.below hC hb3
        have hr3 := Lib.hid (Below.heap' hb3 hr0.out)
        have hbx3 : w3.cell? ⟨w.heap.size, 0, none⟩ = some (.pointer (some ⟨e, 0, none⟩)) := by rw [cell_of_heap hI3.box]; rfl
        obtain ⟨g0, g1, g2, g3, gf⟩ := hI3.ej.ep.at'.cells
        have hel3 := heap_lt hI3.ej.ep.at'.blk
        have hpl3 := heap_lt hI3.box
        have hrl3 : wr.heap.size < w3.heap.size := heap_lt hr3.out
        clear hI2 hb3
        have hsub0 : (0 : Int) ≤ (i : Int) + 1 := by omega
        have hsub1 : ((i : Int) + 1) ≤ (L.length : Int) := by omega
        have hi1 : i ≤ cap' := by omega
        have hi2 : i + 1 ≤ L.length := by omega
        have hsub3 : ((i : Int) + 1).toNat = i + 1 := by omega
        have hW1 := IntWalk.i64_in ((i : Int) + 1) (by omega)
        have hT := (hI3.below hC (Below.refl w3.heap.size w3).drew).all.tail (i + 1) (by omega)
        generalize hA1 : (if cap' = i + 1 then some (⟨ab, 0, none⟩ : Addr) else some ⟨ab, (i + 1) * 2, none⟩) = ad at hT
        replace hT := Lib.hid hT
        have hCl := Lib.hid (ClRet.clone_any Ret.cells ret_len ret_one base a4 c4 kept w3.drew (hI3.below hC (Below.refl w3.heap.size w3).drew).row.src (by have := hI3.upd.size; have := hI3.siz; show base ≤ w3.heap.size; omega) (by omega))
        have hK3 : ∀ w1, Below w3.heap.size w3 w1 → w1.cell? ⟨e, 1, none⟩ = some (.slice al later.length cl) ∧ w1.frozen? ⟨e, 1, none⟩ = false ∧ w1.cell? ⟨w.heap.size, 0, none⟩ = some (.pointer (some ⟨e, 0, none⟩)) := fun w1 hb => by
          refine ⟨keep hb g1, ?_, keep hb hbx3⟩
          exact keepf hb g1 (gf 1)
        replace hK3 := Lib.hid hK3
        obtain ⟨i0, hi0, hz0, hz1, hz2⟩ := ret_info
        have hlen : kept.length + (L.drop (i + 1)).length ≤ maxLen := by unfold maxLen; simp; omega
        have hby : (kept.length + (L.drop (i + 1)).length) * 16 ≤ 140737488355328 := by simp; omega
        replace hlen := Lib.hid hlen
        replace hby := Lib.hid hby
        have hbs3 : base ≤ w3.heap.size := by have := hI3.upd.size; have := hI3.siz; omega
        replace hI3 := Lib.hid hI3
        go_upto_region 16 with fail
        have hnl : kept.length + (L.drop (i + 1)).length = kept.length + (L.length - (i + 1)) := by rw [List.length_drop]
        replace hnl := Lib.hid hnl
        go_cut [58] from 32 to 88 (fun _ wx => ∃ (a6 : Option Addr) (c6 : Nat), CI J base e m w (foot e m (.slice (some ⟨ab, 0, none⟩) L.length cap') O) (.slice (some ⟨ab, 0, none⟩) L.length cap') L w.heap.size wx (.slice a4 kept.length c4) kept (.slice a6 (kept.length + (L.length - (i + 1))) c6) O' x' g' (kept ++ L.drop (i + 1)) ∧
          RetRow base wx (.slice al later.length cl) later ∧ wx.heap[wr.heap.size]? = some (.cells #[.func (.func r.f) #[] r.caps, .int .u64 r.at'] 56) ∧ ∀ q, (Value.slice a6 (kept.length + (L.length - (i + 1))) c6).ownBlock = some q → wr.heap.size < q)
        case first =>
          refine onlyN ?_
          go_region_law (first
            | (go_simp; go_at_call 29; refine hCl.out.mono ?_; rintro z w4 ⟨ac, cc, rfl, hrow4, hb4, hnew4⟩; have hbx4 : Below w3.heap.size w3 w4 := ((Below.refl w3.heap.size w3).drew).trans hb4; obtain ⟨j1, j2, j3⟩ := hK3.out w4 hbx4; have hel4 : e < w4.heap.size := Nat.lt_of_lt_of_le hel3 hbx4.size; have hS4 := hT.out.below hb4; have hbs4 : base ≤ w4.heap.size := Nat.le_trans hbs3 hbx4.size; replace hrow4 := Lib.hid hrow4; replace hnew4 := Lib.hid hnew4; replace hS4 := Lib.hid hS4; replace hbs4 := Lib.hid hbs4; have hb4' := Lib.hid hbx4; clear hb4 hbx4)
            | (refine step_append_row (f := Ret.cells) (M := L.drop (i + 1)) _ rfl (.tmp 53) (.tmp 57) 50 rfl base 56 i0 (.agg #[.nilFunc, .int .u64 0]) 2 16 Try.underlying50 hi0 hz0 hz1 hz2 rfl (by decide) (.slice ac kept.length cc) kept (by simp [Act.eval]) hrow4.out (.slice ad (L.length - (i + 1)) (cap' - (i + 1))) (by simp [Act.eval]) hS4.out hlen.out hby.out hbs4.out ?_; intro a5 c5 w5 hrow hu hat; obtain ⟨hB5, hn5⟩ := grown_below hb4'.out hb4'.out.size hnew4.out hu hat; obtain ⟨k1, k2, k3⟩ := hK3.out w5 hB5; have hel5 : e < w5.heap.size := Nat.lt_of_lt_of_le hel3 hB5.size; clear hu hat; replace hrow := Lib.hid hrow; replace hB5 := Lib.hid hB5; replace hn5 := Lib.hid hn5))
          all_goals
            dsimp only [OnlyN]
            go_wp2_with fail
            go_meet
            have hrow' := hrow.out
            rw [hnl.out] at hrow'
            have hn5' : ∀ q, (Value.slice a5 (kept.length + (L.length - (i + 1))) c5).ownBlock = some q → w3.heap.size ≤ q := by
              intro q hq
              exact hn5.out q (by rw [hnl.out]; exact hq)
            have hu5 : Upd [e] w3 (w5.setCell ⟨e, 1, none⟩ (.slice a5 (kept.length + (L.length - (i + 1))) c5)) := (Upd.of_below hB5.out).trans ((Upd.refl _ _).setCell (p := ⟨e, 1, none⟩) (by simp) _)
            refine ⟨a5, c5, hI3.out.left hC (Upd.of_below (S := []) hB5.out) (by simp) hrow' (fun q hq => .inr (hn5' q hq)), hI3.out.ej.ep.row.upd hu5 ?_, hu5.heap hr3.out ?_, fun q hq => Nat.lt_of_lt_of_le hrl3 (hn5' q hq)⟩
            · intro q hq hh
              simp at hh
              exact hI3.out.ej.ep.oe (by rw [hq, hh])
            · intro hh
              simp at hh
              omega
        case rest =>
          obtain ⟨a6, c6, hI6, hr6, hrb6, hn6⟩ := hcut
          clear hT hCl hK3 hlen hby hI3 hr3 hA1 hsub0 hsub1 hsub3 hW1 hi1 hbx3 g0 g1 g2 g3 gf hel3 hpl3 hrl3 hnl hbs3 c0 c1 c2 c3 cf hbx d0 d1 hab4 hab5
          have hml : kept.length + (L.length - (i + 1)) = (kept ++ L.drop (i + 1)).length := by simp
          rw [hml] at hI6 hn6
          have hM1l : (kept ++ L.drop (i + 1)).length + later.length ≤ L.length := by simp; omega
          clear hml
          generalize kept ++ L.drop (i + 1) = M1 at *
          obtain ⟨g0, g1, g2, g3, gf⟩ := hI6.ej.ep.at'.cells
          have hel6 := heap_lt hI6.ej.ep.at'.blk
          have hbx6 : wc.cell? ⟨w.heap.size, 0, none⟩ = some (.pointer (some ⟨e, 0, none⟩)) := by rw [cell_of_heap hI6.box]; rfl
          have hI7 := Lib.hid (hI6.below hC (Below.refl wc.heap.size wc).drew)
          have hR7 := Lib.hid hI7.out.ej.ep.row
          have hS7 := Lib.hid (hr6.below (Below.refl wc.heap.size wc).drew).src
          have hK7 := Lib.hid (hI7.out.ej.ep.at'.kept (not_own hI7.out.ej.ep.oe))
          have hbs7 : base ≤ wc.drew.heap.size := Nat.le_trans hI6.siz hI6.upd.size
          have hP7 : ∀ w1, Upd (Value.slice a6 M1.length c6).ownBlock.toList wc.drew w1 → w1.cell? ⟨w.heap.size, 0, none⟩ = some (.pointer (some ⟨e, 0, none⟩)) ∧ w1.heap[wr.heap.size]? = some (.cells #[.func (.func r.f) #[] r.caps, .int .u64 r.at'] 56) := fun w1 hu =>
            ⟨hu.cell (w := wc.drew) hbx6 (fun hh => hI6.dp (by simp [foot, mem_own hh])), hu.heap (w := wc.drew) hrb6 (fun hh => by have := hn6 _ (mem_own hh); omega)⟩
          replace hP7 := Lib.hid hP7
          replace hbs7 := Lib.hid hbs7
          have hlen : M1.length + later.length ≤ maxLen := by unfold maxLen; omega
          have hby : (M1.length + later.length) * 16 ≤ 140737488355328 := by omega
          replace hlen := Lib.hid hlen
          replace hby := Lib.hid hby
          obtain ⟨i0, hi0, hz0, hz1, hz2⟩ := ret_info
          replace hrb6 := Lib.hid hrb6
          replace hn6 := Lib.hid hn6
          clear hI6 hr6
          go_upto_region 18 with fail
          go_cut [72] from 32 to 88 (fun _ wx => ∃ (a7 : Option Addr) (c7 : Nat), CI J base e m w (foot e m (.slice (some ⟨ab, 0, none⟩) L.length cap') O) (.slice (some ⟨ab, 0, none⟩) L.length cap') L w.heap.size wx (.slice a4 kept.length c4) kept (.slice a7 (M1.length + later.length) c7) O' x' g' (M1 ++ later) ∧
            wx.heap[wr.heap.size]? = some (.cells #[.func (.func r.f) #[] r.caps, .int .u64 r.at'] 56))
          case first =>
            refine onlyN ?_
            go_region_law (refine step_append_row (f := Ret.cells) (M := later) _ rfl (.tmp 70) (.tmp 71) 50 rfl base 56 i0 (.agg #[.nilFunc, .int .u64 0]) 2 16 Try.underlying50 hi0 hz0 hz1 hz2 rfl (by decide) (.slice a6 M1.length c6) M1 (by simp [Act.eval]) hR7.out (.slice al later.length cl) (by simp [Act.eval]) hS7.out hlen.out hby.out hbs7.out ?_; intro a5 c5 w5 hrow hu hat; obtain ⟨j0, j1, j2, j3, jf, jl⟩ := hK7.out w5 hu; obtain ⟨jp, jr⟩ := hP7.out w5 hu; replace hrow := Lib.hid hrow; replace hu := Lib.hid hu; replace hat := Lib.hid hat; replace jr := Lib.hid jr)
            all_goals
              dsimp only [OnlyN]
              go_wp2_with fail
              go_meet
              refine ⟨a5, c5, hI7.out.left hC hu.out (fun k hk => mem_own hk) hrow.out (fun q hq => ?_), ?_⟩
              · rcases hat.out with hh | hh
                · exact .inl (by rw [← hh]; exact hq)
                · have hh' := hh.symm.trans hq
                  injection hh' with hh'
                  exact .inr (Nat.le_of_eq hh')
              · rw [heap_set_other _ _ (by show wr.heap.size ≠ e; omega)]
                exact jr.out
          case rest =>
            obtain ⟨a7, c7, hI8, hrb8⟩ := hcut
            clear hI7 hR7 hS7 hK7 hP7 hbs7 hlen hby hrb6 hn6 g0 g1 g2 g3 gf hbx6
            have eg := hC.enter r hAr
            have f0 : wc.cell? ⟨wr.heap.size, 0, none⟩ = some (.func (.func r.f) #[] r.caps) := by rw [cell_of_heap hrb8]; rfl
            have hrn := Lib.hid (hC.run r hAr x' g' O' _ _ wc hI8.ej (by simp; omega) (Nat.le_trans hI8.siz hI8.upd.size) ⟨_, hokk.out⟩)
            replace hI8 := Lib.hid hI8
            clear hrb8
            go_wp2_with fail
            refine hrn.out.mono ?_
            clear hrn eg
            rintro z w9 ⟨rfl, lv9, O9, x9, g9, app, hE9, hR9, hU9, hG9⟩
            have happ := hC.app _ _ _ _ _ _ hR9
            have hokn := Lib.hid (hC.okr _ _ _ _ _ _ _ hR9 hokk.out)
            have hco' := Lib.hid (htk.out ▸ hco.out.run hrip.out hR9)
            obtain ⟨a9, c9, hlv9⟩ := hE9.ep.row.shape
            subst hlv9
            have hI9 := hI8.out.run hE9 hU9 hG9
            clear hR9 hE9 hU9 hG9 hI8
            have hql : (later ++ app).length = (M1 ++ later ++ app).length - M1.length := by simp <;> omega
            have hdp : (M1 ++ later ++ app).drop M1.length = later ++ app := by simp
            have hn9 : M1.length ≤ (M1 ++ later ++ app).length := by simp <;> omega
            have hn9b : (M1 ++ later ++ app).length ≤ 1000000 := by simp; omega
            have hql2 : (later ++ app).length ≤ 1000000 := by omega
            have hbs9 : base ≤ w9.heap.size := Nat.le_trans hI9.siz hI9.upd.size
            have hbx9 : w9.cell? ⟨w.heap.size, 0, none⟩ = some (.pointer (some ⟨e, 0, none⟩)) := by rw [cell_of_heap hI9.box]; rfl
            obtain ⟨g0, g1, g2, g3, gf⟩ := hI9.ej.ep.at'.cells
            have hel9 := heap_lt hI9.ej.ep.at'.blk
            have hpl9 := heap_lt hI9.box
            have hK9 : ∀ w1, Below w9.heap.size w9 w1 → w1.cell? ⟨e, 1, none⟩ = some (.slice a9 (M1 ++ later ++ app).length c9) ∧ w1.frozen? ⟨e, 1, none⟩ = false ∧ w1.cell? ⟨w.heap.size, 0, none⟩ = some (.pointer (some ⟨e, 0, none⟩)) ∧ e < w1.heap.size := fun w1 hb =>
              ⟨keep hb g1, keepf hb g1 (gf 1), keep hb hbx9, Nat.lt_of_lt_of_le hel9 hb.size⟩
            have hrw := (hI9.below hC (Below.refl w9.heap.size w9).drew).ej.ep.row
            have hfin : ∀ (w10 : World) (a10 : Option Addr) (c10 : Nat), ClRet.CloneEnd Ret.cells base (later ++ app) w9.drew (.returned (.slice a10 (later ++ app).length c10)) w10 → RetRow base w10 (.slice a10 (later ++ app).length c10) (later ++ app) ∧ Below w9.heap.size w9 w10 ∧ ∀ b, (Value.slice a10 (later ++ app).length c10).ownBlock = some b → w9.heap.size ≤ b := by
              rintro w10 a10 c10 ⟨a, c, he, h1, h2, h3⟩
              injection he with he
              injection he with e1 e2 e3
              subst e1 e3
              exact ⟨h1, ((Below.refl w9.heap.size w9).drew).trans h2, h3⟩
            replace hfin := Lib.hid hfin
            replace hco' := Lib.hid hco'
            rcases hrw.cases with ⟨hnil, hnil2⟩ | ⟨b9, c9', hsl, hsb, hsb2, _, hsc, hsc2, hsc3, _⟩
            · have hm0 : M1 = [] ∧ later = [] ∧ app = [] := by
                simp only [List.append_eq_nil_iff] at hnil2
                exact ⟨hnil2.1.1, hnil2.1.2, hnil2.2⟩
              obtain ⟨rfl, rfl, rfl⟩ := hm0
              injection hnil with hs1 hs2 hs3
              subst hs1 hs3
              have hCl := Lib.hid (ClRet.clone_any Ret.cells ret_len ret_one base none 0 [] w9.drew (by simpa using hrw.src) hbs9 (by simp))
              clear hql hdp hn9 hn9b hql2 hrw hnil2 g0 g2 g3 gf
              replace hI9 : CI J base e m w (foot e m (.slice (some ⟨ab, 0, none⟩) L.length cap') O) (.slice (some ⟨ab, 0, none⟩) L.length cap') L w.heap.size w9 (.slice a4 kept.length c4) kept (.slice none 0 0) O9 x9 g9 [] := hI9
              replace g1 : w9.cell? ⟨e, 1, none⟩ = some (.slice none 0 0) := g1
              replace hK9 : ∀ w1, Below w9.heap.size w9 w1 → w1.cell? ⟨e, 1, none⟩ = some (.slice none 0 0) ∧ w1.frozen? ⟨e, 1, none⟩ = false ∧ w1.cell? ⟨w.heap.size, 0, none⟩ = some (.pointer (some ⟨e, 0, none⟩)) ∧ e < w1.heap.size := hK9
              replace hco' : Hid (Coll R x g (L.take (i + 1)) x9 g9 kept [] (n + 1)) := hco'
              replace hfin : Hid (∀ (w10 : World) (a10 : Option Addr) (c10 : Nat), ClRet.CloneEnd Ret.cells base [] w9.drew (.returned (.slice a10 0 c10)) w10 → RetRow base w10 (.slice a10 0 c10) [] ∧ Below w9.heap.size w9 w10 ∧ ∀ b, (Value.slice a10 0 c10).ownBlock = some b → w9.heap.size ≤ b) := hfin
              replace hCl : Hid (Calls Try.prog 29 #[.slice none 0 0] w9.drew (ClRet.CloneEnd Ret.cells base [] w9.drew)) := hCl
              replace hK9 := Lib.hid hK9
              replace hI9 := Lib.hid hI9
              go_upto_region 20 with fail
              refine onlyN ?_
              go_region_law (go_simp; go_at_call 29; refine hCl.out.mono ?_; rintro z w10 hz; obtain ⟨a10, c10, rfl, hx10⟩ := hz; have hy := hfin.out w10 a10 c10 ⟨a10, c10, rfl, hx10⟩; obtain ⟨j1, j2, j3, j4⟩ := hK9.out w10 hy.2.1; replace hy := Lib.hid hy; clear hx10)
              all_goals
                dsimp only [OnlyN]
                go_wp2_with fail
                go_roundg (L.length - (i + 1))
                case measure => omega
                case rel =>
                  have hL := hI9.out.left hC (Upd.of_below (S := []) hy.out.2.1) (by simp) hy.out.1 (fun q hq => .inr (hy.out.2.2 q hq))
                  exact ⟨i + 1, n + 1, kept, [], .slice a10 0 c10, O9, x9, g9, a4, c4, by omega, by omega, by go_num, by go_num, rfl, hco'.out, hokn.out, hL⟩
            · injection hsl with hs1 hs2 hs3
              subst hs1 hs3
              have hT := hrw.tail M1.length hn9
              rw [hdp] at hT
              generalize hA1 : (if c9 = M1.length then some (⟨b9, 0, none⟩ : Addr) else some ⟨b9, M1.length * 2, none⟩) = ad at hT
              rw [← hql] at hT
              have hCl := ClRet.clone_any Ret.cells ret_len ret_one base ad (c9 - M1.length) (later ++ app) w9.drew hT hbs9 (by omega)
              rw [hql] at hCl
              replace hCl := Lib.hid hCl
              have hc9 : M1.length ≤ c9 := by omega
              replace hql := Lib.hid hql
              clear hT hdp hrw hsc3 hsc2 hsb hsb2 hql2
              replace hK9 := Lib.hid hK9
              replace hI9 := Lib.hid hI9
              have hsub0 : (0 : Int) ≤ (M1.length : Int) := by omega
              have hsub1 : (M1.length : Int) ≤ ((M1 ++ later ++ app).length : Int) := by omega
              generalize (M1 ++ later ++ app).length = n9 at *
              go_upto_region 20 with fail
              refine onlyN ?_
              go_region_law (go_simp; go_at_call 29; refine hCl.out.mono ?_; rintro z w10 hz; obtain ⟨a10, c10, rfl, hx10⟩ := hz; have hy := hfin.out w10 a10 c10 ⟨a10, c10, rfl, hx10⟩; obtain ⟨j1, j2, j3, j4⟩ := hK9.out w10 hy.2.1; replace hy := Lib.hid hy; clear hx10)
              all_goals
                dsimp only [OnlyN]
                go_wp2_with fail
                go_roundg (L.length - (i + 1))
                case measure => omega
                case rel =>
                  have hL := hI9.out.left hC (Upd.of_below (S := []) hy.out.2.1) (by simp) hy.out.1 (fun q hq => .inr (hy.out.2.2 q hq))
                  rw [List.length_append] at hL
                  exact ⟨i + 1, n + 1, kept, later ++ app, .slice a10 (later.length + app.length) c10, O9, x9, g9, a4, c4, by omega, by omega, by go_num, by go_num, rfl, hco'.out, hokn.out, hL⟩
      · have hdr : decide (∀ y, y ∈ g'.S → r.at' < y.t) = false := decide_eq_false hrip
        rw [hdr] at hrp
        replace hrip := Lib.hid hrip
        replace hdr := Lib.hid hdr
        go_wp2_with fail
        refine hrp.out.mono ?_
        clear hrp
        rintro z w3 ⟨rfl, hb3⟩
        have hI3 := hI2.out.below hC hb3
        have hr3 := Below.heap' hb3 hr0.out
        have e0 : w3.cell? ⟨wr.heap.size, 0, none⟩ = some (.func (.func r.f) #[] r.caps) := by rw [cell_of_heap hr3]; rfl
        have e1 : w3.cell? ⟨wr.heap.size, 1, none⟩ = some (.int .u64 r.at') := by rw [cell_of_heap hr3]; rfl
        have hrl3 := heap_lt hr3
        have hbs3 : base ≤ (w3.alloc (.cells #[.func (.func r.f) #[] r.caps, .int .u64 r.at'] 56)).heap.size := by
          have := hI3.upd.size
          simp
          have := hI3.siz
          omega
        obtain ⟨i0, hi0, hz0, hz1, hz2⟩ := ret_info
        have hB4 : Below w3.heap.size w3 (w3.alloc (.cells #[.func (.func r.f) #[] r.caps, .int .u64 r.at'] 56)) := (Below.refl _ _).alloc (Nat.le_refl _) _
        have hI4 := Lib.hid (hI3.below hC hB4)
        have hS4 := Lib.hid (SrcOf.one w3 56 (Ret.cells r) (ret_one _))
        have hR4 := Lib.hid hI4.out.row
        have hlen : kept.length + 1 ≤ maxLen := by unfold maxLen; omega
        have hby : (kept.length + 1) * 16 ≤ 140737488355328 := by omega
        replace hbs3 := Lib.hid hbs3
        clear hI2 hb3 hr3 hB4 hI3
        go_wp2_with (at_builtin; refine wpList_append_row (f := Ret.cells) (M := [r]) _ rfl _ _ 50 rfl base 56 i0 (.agg #[.nilFunc, .int .u64 0]) 2 16 Try.underlying50 hi0 hz0 hz1 hz2 rfl (by decide) (.slice a4 kept.length c4) kept rfl hR4.out (.slice (some ⟨w3.heap.size, 0, none⟩) 1 1) rfl hS4.out hlen hby hbs3.out ?_; intro a5 c5 w5 hrow hu hat; replace hrow := Lib.hid hrow; replace hu := Lib.hid hu; replace hat := Lib.hid hat)
        go_roundg (L.length - (i + 1))
        case measure => omega
        case rel =>
          refine ⟨i + 1, n, kept ++ [r], later, lv, O', x', g', a5, c5, by omega, by omega, by go_num, rfl, by simp, ?_, hC.down _ _ _ hokk.out, ?_⟩
          · rw [htk.out]
            exact hco.out.skip hrip.out
          · refine hI4.out.other hC hu.out (fun k hk => ⟨(hI4.out.dk k (mem_own hk)).1, fun hh => (hI4.out.da k hh).2.1 (mem_own hk), (hI4.out.dk k (mem_own hk)).2⟩) hrow.out (fun q hq => ?_)
            rcases hat.out with hh | hh
            · exact .inl (by rw [← hh]; exact hq)
            · refine .inr ?_
              have hh' := hh.symm.trans hq
              injection hh' with hh'
              exact Nat.le_of_eq hh'
    · obtain rfl : i = L.length := by omega
      obtain ⟨al, cl, hlv⟩ := hI.ej.ep.row.shape
      subst hlv
      have hS := Lib.hid (hI.below hC (Below.refl wr.heap.size wr).drew).ej.ep.row.src
      have hR := Lib.hid (hI.below hC (Below.refl wr.heap.size wr).drew).row
      have hbs : base ≤ wr.drew.heap.size := Nat.le_trans hI.siz hI.upd.size
      replace hbs := Lib.hid hbs
      have hee : kvown_ne (Value.slice a4 kept.length c4) e := fun hh => (hI.dk e hh).1 (by simp [foot])
      have hK := Lib.hid ((hI.below hC (Below.refl wr.heap.size wr).drew).ej.ep.at'.kept (not_own hee))
      have hpk : w.heap.size ∉ (Value.slice a4 kept.length c4).ownBlock.toList := fun hh => (hI.dk _ (mem_own hh)).2.1 rfl
      have hP : ∀ w1, Upd (Value.slice a4 kept.length c4).ownBlock.toList wr.drew w1 → w1.cell? ⟨w.heap.size, 0, none⟩ = some (.pointer (some ⟨e, 0, none⟩)) := fun w1 hu => hu.cell (w := wr.drew) hbx hpk
      replace hP := Lib.hid hP
      have hlen : kept.length + later.length ≤ maxLen := by unfold maxLen; omega
      have hby : (kept.length + later.length) * 16 ≤ 140737488355328 := by omega
      obtain ⟨i0, hi0, hz0, hz1, hz2⟩ := ret_info
      replace hI := Lib.hid (hI.below hC (Below.refl wr.heap.size wr).drew)
      clear hpk hee
      go_upto_region 22 with fail
      refine onlyN ?_
      go_region_law (refine step_append_row (f := Ret.cells) (M := later) _ rfl (.tmp 90) (.tmp 94) 50 rfl base 56 i0 (.agg #[.nilFunc, .int .u64 0]) 2 16 Try.underlying50 hi0 hz0 hz1 hz2 rfl (by decide) (.slice a4 kept.length c4) kept (by simp [Act.eval]) hR.out (.slice al later.length cl) (by simp [Act.eval]) hS.out hlen hby hbs.out ?_; intro a5 c5 w5 hrow hu hat; obtain ⟨d0, d1, d2, d3, df, dl⟩ := hK.out w5 hu; have dp := hP.out w5 hu; replace hrow := Lib.hid hrow; replace hu := Lib.hid hu; replace hat := Lib.hid hat)
      all_goals
        dsimp only [OnlyN]
        go_wp2_with fail
        have hI6 := hI.out.other hC hu.out (fun k hk => ⟨(hI.out.dk k (mem_own hk)).1, fun hh => (hI.out.da k hh).2.1 (mem_own hk), (hI.out.dk k (mem_own hk)).2⟩) hrow.out (fun q hq => by
          rcases hat.out with hh | hh
          · exact .inl (by rw [← hh]; exact hq)
          · have hh' := hh.symm.trans hq
            injection hh' with hh'
            exact .inr (Nat.le_of_eq hh'))
        obtain ⟨b0, b3, bf⟩ := hI6.door (.slice a5 (kept.length + later.length) c5)
        refine leaves_cons (f := 27) (args := #[.pointer (some ⟨w.heap.size, 0, none⟩)]) (by simp) (by simp [go_sem]) ?_
        refine (epCollect1_deferred w.heap.size e (.bool true) _ _ b0 b3 bf).mono ?_
        rintro z u' w'' ⟨rfl, rfl, rfl⟩
        obtain ⟨f1, f2, f3⟩ := hI6.fin hC
        have hfin : CollEnd J R base e m (.slice a L.length cap) O x g L w (.returned (.int .i64 n)) ((w5.setCell ⟨e, 1, none⟩ (.slice a5 (kept.length + later.length) c5)).setCell ⟨e, 3, none⟩ (.bool false)) :=
          ⟨n, kept, later, _, _, x', g', rfl, by have := hco.out; rwa [List.take_length] at this, f1, f2, f3⟩
        simp [Leaves, settle, results, Try.results14]
        exact hfin
end Go.Proofs.Ytidiefcgepllmaa
