/- The walk of the law EpochSafe: for any acts it returns true. -/
import Derived.Test.YtidiefcgepllmaaEpochSafeP
import Derived.Test.YtidiefcgepllmaaEpochActs
import Derived.StillTailTactics
import Derived.Deep.LoopGhost
import Derived.Deep.DeepCutAuto
import Derived.Deep.RegionWith
import Derived.Deep.CutBlock
namespace Go.Proofs.Ytidiefcgepllmaa
open Go.RowKit
def SW (w0 w : World) (base : Nat) (B : SafeB) (e m k : Nat) : Prop := ∃ (x : SafeSt) (g : EpG) (L : List Ret) (ats I : List Nat), EW (Jsafe base B) base e m w0 w x g false L ∧ SP B x g L k ats I
theorem bool8_info : ∃ i0 : TypeInfo, Try.prog.info? 43 = some i0 ∧ i0.zero = some (.agg #[.bool false, .bool false, .bool false, .bool false, .bool false, .bool false, .bool false, .bool false]) ∧ i0.size = 8 ∧ i0.bytes = 8 := info_parts (show (Try.prog.info? 43).map (fun i => (i.zero, i.size, i.bytes)) = some (some (.agg #[.bool false, .bool false, .bool false, .bool false, .bool false, .bool false, .bool false, .bool false]), 8, 8) by kernel_rfl)
theorem int_info : ∃ i0 : TypeInfo, Try.prog.info? 3 = some i0 ∧ i0.zero = some (.int .i64 0) ∧ i0.size = 1 ∧ i0.bytes = 8 := info_parts (show (Try.prog.info? 3).map (fun i => (i.zero, i.size, i.bytes)) = some (some (.int .i64 0), 1, 8) by kernel_rfl)
theorem set8_self {p : B8} {t : Nat} {b : Bool} (h : p t = b) : set8 p t b = p := by
  funext i
  unfold set8
  split
  · rename_i hi; rw [hi, h]
  · rfl
theorem mid_get (f : B8 → B8) {l : List B8} {i : Nat} {p : B8} (h : l[i]? = some p) : ((l.take i).map f ++ l.drop i)[i]? = some p := by
  have hi := (List.getElem?_eq_some_iff.1 h).1
  rw [List.getElem?_append_right (by simp; omega)]
  simp [Nat.min_eq_left (Nat.le_of_lt hi), h]
theorem mid_set (f : B8 → B8) {l : List B8} {i : Nat} (hi : i < l.length) {p : B8} (h : l[i]? = some p) : ((l.take i).map f ++ l.drop i).set i (f p) = (l.take (i + 1)).map f ++ l.drop (i + 1) := by
  have h2 : l[i] = p := by rw [List.getElem?_eq_getElem hi] at h; injection h
  rw [List.set_append_right _ _ (by simp; omega), List.drop_eq_getElem_cons hi, List.take_succ_eq_append_getElem hi, h2]
  simp [Nat.min_eq_left (Nat.le_of_lt hi)]
theorem len_ok {n : Nat} (h : n < 1000) : n + 1 ≤ maxLen := by unfold maxLen; omega
theorem len_ok8 {n : Nat} (h : n < 1000) : (n + 1) * 8 ≤ 140737488355328 := by omega
theorem own_of_at {v v' : Value} {n : Nat} (h : v'.ownBlock = v.ownBlock ∨ v'.ownBlock = some n) : ∀ q, v'.ownBlock = some q → v.ownBlock = some q ∨ n ≤ q := by
  intro q hq
  rcases h with h | h
  · exact .inl (by rw [← h]; exact hq)
  · rw [h] at hq; injection hq with hq; subst hq; exact .inr (Nat.le_refl _)
theorem make8 (n : Nat) (hn : n < 1000) (W : World) : (Instr.makeSlice 44 (.int .i64 n) (.int .i64 n)).run Try.prog W = .ok (.slice (some ⟨W.heap.size, 0, none⟩) n n) (W.alloc (.cells (madeCells (wcell none8).toArray (n * 8)) 43)) := by
  obtain ⟨i0, h1, h2, h3, h4⟩ := bool8_info
  have := run_make (P := Try.prog) W 44 43 i0 _ Try.underlying44 h1 h2 .i64 .i64 n n (by omega) (Int.le_refl _) (by rw [h4]; omega) (by omega)
  rw [Int.toNat_natCast, h3] at this
  exact this
theorem EW.low {base e m : Nat} {B : SafeB} {w0 w : World} {x : SafeSt} {g : EpG} {b : Bool} {L : List Ret} (h : EW (Jsafe base B) base e m w0 w x g b L) : base ≤ w.heap.size := by
  obtain ⟨v, O, h⟩ := h
  obtain ⟨wv, rv, hO, h1, h2, _⟩ := h.ej.rest
  have := h2 B.pb (by rw [hO]; simp)
  omega
theorem alloc_set {w : World} {b : Nat} (o : Obj) (v : Value) (h : b < w.heap.size) : (w.alloc o).setCell ⟨b, 0, none⟩ v = (w.setCell ⟨b, 0, none⟩ v).alloc o := World.setCell_alloc_past _ _ _ _ h
theorem SP.finish {B : SafeB} {x x' : SafeSt} {g g2 g' : EpG} {L kept later : List Ret} {k n cnt : Nat} {ats I : List Nat} (h : SP B x g L k ats I) (hnd : x.nbs.Nodup) (hS : g2.S = []) (hc : Coll (Rsafe B) { x with waits := List.replicate n none8 } g2 L x' g' kept later cnt) :
    g' = g2 ∧ later = [] ∧ kept = [] ∧ x'.wrong = false ∧ x'.ran.length = x.ran.length ∧ ∀ j, j < x.nbs.length → x'.ran.getD j 0 = 1 := by
  obtain ⟨rfl, rfl, p1, p2, p3, p4, p5, I', q1, q2, q3, q4, q5⟩ := safe_coll ats hc hnd h.lr (fun i hi _ => by
    show anyb ((List.replicate n none8).getD i none8) = false
    rw [List.getD_eq_getElem?_getD, List.getElem?_replicate]
    split <;> rfl) h.wr I h.eL (h.pI.imp (fun hab => Nat.ne_of_lt hab)) h.lI
  have hI0 : I' = [] := List.eq_nil_iff_forall_not_mem.2 (fun i hi => q4 i (q2.subset hi) (by rw [hS]; simp) hi)
  subst hI0
  refine ⟨rfl, rfl, q1, p4, p5, fun j hj => ?_⟩
  rw [q5 j]
  show (if j ∈ I ∧ j ∉ [] then wrap64 (x.ran.getD j 0 + 1) else x.ran.getD j 0) = 1
  rw [h.rn j hj]
  by_cases hji : j ∈ I
  · simp [hji, wrap_one']
  · simp [hji]
set_option maxRecDepth 100000 in
set_option maxHeartbeats 4000000 in
theorem safeLaw_walk (s : Option Addr) (len cap : Nat) (rows : List (List Value)) (w : World) (hr : IsFlat act4K w s len rows) :
    Calls Try.prog 5 #[.slice s len cap] w fun e w' => e = .returned (.bool true) ∧ Below w.heap.size w w' := by
  have hro := Lib.hid (act4_row hr)
  have hmf : ∀ (fn : Fn) (first cap : Array Value) (w : World), (Instr.makeFunc fn first cap).run Try.prog w = .ok (.func fn first cap) w := fun _ _ _ _ => rfl
  clear hr
  go_enter Try.func5, Try.ntmps5
  go_wp2_with fail
  refine (awake4_any _).mono ?_
  rintro e w1 ⟨rfl, hb1⟩
  have HB1 := Lib.hid hb1
  clear hb1
  by_cases hl : 200 < len
  · go_wp2_with fail
    go_ret
    exact ⟨rfl, HB1.out⟩
  go_wp2_with fail
  refine (epNew_any w1.heap.size w1).mono ?_
  rintro z w2 ⟨rfl, hb2, hE2, hs2⟩
  replace hs2 := Lib.hid hs2
  go_wp2_with fail
  obtain ⟨B, e0, e1, e2, e3, hst⟩ : ∃ B : SafeB, w2.heap.size = B.pb ∧ w2.heap.size + 1 = B.wb ∧ w2.heap.size + 1 + 1 = B.rb ∧ w2.heap.size + 1 + 1 + 1 = B.gb ∧ SW w ((((w2.alloc (.cells #[.bool false, .bool false, .bool false, .bool false, .bool false, .bool false, .bool false, .bool false] 43)).alloc (.cells #[.slice none 0 0] 44)).alloc (.cells #[.slice none 0 0] 27)).alloc (.cells #[.bool false] 4)) w1.heap.size B (w1.heap.size + 1) w1.heap.size 0 := by
    refine ⟨⟨_, _, _, _⟩, rfl, rfl, rfl, rfl, ⟨none8, [], [], false, []⟩, ⟨[], 0, 0⟩, [], [], [], ?_, SP.start _⟩
    have hz := HB1.out.size
    have hz2 := hs2.out
    have hB3 : Below w2.heap.size w2 ((((w2.alloc (.cells #[.bool false, .bool false, .bool false, .bool false, .bool false, .bool false, .bool false, .bool false] 43)).alloc (.cells #[.slice none 0 0] 44)).alloc (.cells #[.slice none 0 0] 27)).alloc (.cells #[.bool false] 4)) := ((((Below.refl _ _).alloc (Nat.le_refl _) _).alloc (by simp) _).alloc (by simp; omega) _).alloc (by simp; omega) _
    have b0 := heap_alloc_new w2 (.cells #[.bool false, .bool false, .bool false, .bool false, .bool false, .bool false, .bool false, .bool false] 43)
    have b1 := heap_alloc_new (w2.alloc (.cells #[.bool false, .bool false, .bool false, .bool false, .bool false, .bool false, .bool false, .bool false] 43)) (.cells #[.slice none 0 0] 44)
    have b2 := heap_alloc_new ((w2.alloc (.cells #[.bool false, .bool false, .bool false, .bool false, .bool false, .bool false, .bool false, .bool false] 43)).alloc (.cells #[.slice none 0 0] 44)) (.cells #[.slice none 0 0] 27)
    have b3 := heap_alloc_new (((w2.alloc (.cells #[.bool false, .bool false, .bool false, .bool false, .bool false, .bool false, .bool false, .bool false] 43)).alloc (.cells #[.slice none 0 0] 44)).alloc (.cells #[.slice none 0 0] 27)) (.cells #[.bool false] 4)
    simp only [World.size_alloc] at b1 b2 b3
    refine ⟨.slice none 0 0, [w2.heap.size, w2.heap.size + 1, w2.heap.size + 1 + 1, w2.heap.size + 1 + 1 + 1], ⟨⟨hE2.below hB3, ⟨.slice none 0 0, .slice none 0 0, rfl, by simp <;> omega, fun k hk => ?_, trivial, trivial, heap_alloc_old _ (heap_alloc_old _ (heap_alloc_old _ b0)), heap_alloc_old _ (heap_alloc_old _ b1), heap_alloc_old _ b2, b3, by simp, Row.nil wcell_len wcell_one _ _ _, Row.nil (f := intCell) (fun _ => rfl) intCell_one _ _ _⟩, by simp; omega, by simp; omega, by simp [Value.ownBlock]⟩, (HB1.out.trans (hb2.mono hz)).trans (hB3.mono (Nat.le_trans hz hb2.size)), fun k hk => ?_, Nat.le_trans hb2.size hB3.size⟩⟩
    · simp at hk
      rcases hk with rfl | rfl | rfl | rfl <;> (simp; omega)
    · simp [foot, Value.ownBlock] at hk
      omega
  rw [e3, e2, e1, e0]
  replace hst := Lib.hid hst
  clear hE2 hb2 hs2 HB1 e0 e1 e2 e3
  generalize ((((w2.alloc (.cells #[.bool false, .bool false, .bool false, .bool false, .bool false, .bool false, .bool false, .bool false] 43)).alloc (.cells #[.slice none 0 0] 44)).alloc (.cells #[.slice none 0 0] 27)).alloc (.cells #[.bool false] 4)) = w3 at *
  generalize w1.heap.size + 1 = e at *
  generalize w1.heap.size = m at *
  go_loopg [8] len (fun gk iv wr => ∃ k : Nat, gk = len - k ∧ k ≤ len ∧ iv = .int .i64 k ∧ SW w wr m B e m k)
  case atStart => exact ⟨0, rfl, Nat.zero_le _, rfl, hst.out⟩
  case round =>
    obtain ⟨k, rfl, hk, rfl, x, g, L, ats, I, hE, hP⟩ := hrel
    clear hst
    by_cases hlt : k < len
    · obtain ⟨b, off, rfl, hbw, d, tv, th, q0, q1, _, _, _, _⟩ := hro.out k hlt
      obtain ⟨t, ht, ht8⟩ : ∃ t : Nat, bits .and .i64 tv 7 = t ∧ t < 8 := ⟨(tv % 8).toNat, by rw [i64_and7]; omega, by omega⟩
      replace q0 := keep hE.bel q0
      replace q1 := keep hE.bel q1
      replace hE := Lib.hid hE
      replace hP := Lib.hid hP
      go_upto_block 2 with fail
      go_cut [38] (fun _ wx => SW w wx m B e m (k + 1))
      case first =>
        have hC := Lib.hid (clo_safe B m e m x.nbs)
        clear q0 q1 hro
        by_cases hd0 : d = 0
        ·
          subst hd0
          obtain ⟨wv, rv, ho, _⟩ := safe_open (hE.out.below hC.out (Below.refl wr.heap.size wr).drew)
          have hcp : wr.cell? ⟨B.pb, t, none⟩ = some (.bool (x.pin t)) := ho.cp t ht8
          have hpl : B.pb < wr.heap.size := ho.lt.2.2.2
          clear ho
          cases hx : x.pin t with
          | true =>
            have hyes := (hP.out.pn t ht8).1 hx
            have hcl := Lib.hid (EW.Pin_no hC.out (hE.out.below hC.out (Below.refl wr.heap.size wr).drew) (t : Int) hyes)
            rw [hx] at hcp
            replace hx := Lib.hid hx
            clear hyes
            go_wp2_with fail
            go_region_with ((go_at_call 12; refine hcl.out.mono ?_; rintro z w6 ⟨rfl, h6⟩; obtain ⟨wv6, rv6, ho6, _⟩ := safe_open h6; have c6 := ho6.cp t ht8; rw [hx.out] at c6; have f6 := (ho6.fr t).2.2.2; have o6 := ho6.lt.2.2.2; have hs6 := Lib.hid (ho6.setP t true ht8); clear ho6 h6))
            all_goals
              go_wp2_with fail
              go_meet
              exact ⟨_, _, _, _, _, hs6.out, hP.out.pin_same ht8 ((hP.out.pn t ht8).1 hx.out)⟩
          | false =>
            have hno : ∀ y, y ∈ g.S → y.task ≠ (t : Int) := fun y hy hh => by
              have := (hP.out.pn t ht8).2 ⟨y, hy, hh⟩
              rw [hx] at this
              cases this
            have hcl := Lib.hid (EW.Pin_yes hC.out (hE.out.below hC.out (Below.refl wr.heap.size wr).drew) (t : Int) hno (by have := hP.out.bd; omega))
            rw [hx] at hcp
            replace hx := Lib.hid hx
            clear hno
            go_wp2_with fail
            go_region_with ((go_at_call 12; refine hcl.out.mono ?_; rintro z w6 ⟨rfl, h6⟩; obtain ⟨wv6, rv6, ho6, _⟩ := safe_open h6; have c6 := ho6.cp t ht8; rw [hx.out] at c6; have f6 := (ho6.fr t).2.2.2; have o6 := ho6.lt.2.2.2; have hs6 := Lib.hid (ho6.setP t true ht8); clear ho6 h6))
            all_goals
              go_wp2_with fail
              go_meet
              exact ⟨_, _, _, _, _, hs6.out, hP.out.pin ht8⟩
        · have hd0' : (d == 0) = false := beq_eq_false_iff_ne.2 hd0
          by_cases hd1 : d = 1
          ·
            subst hd1
            obtain ⟨wv, rv, ho, _⟩ := safe_open (hE.out.below hC.out (Below.refl wr.heap.size wr).drew)
            have hcp : wr.cell? ⟨B.pb, t, none⟩ = some (.bool (x.pin t)) := ho.cp t ht8
            have hpl : B.pb < wr.heap.size := ho.lt.2.2.2
            clear ho
            have hdd : decide (∃ y, y ∈ g.S ∧ y.task = (t : Int)) = x.pin t := by
              have h1 := hP.out.pn t ht8
              cases hx : x.pin t with
              | true => exact decide_eq_true (h1.1 hx)
              | false => exact decide_eq_false (fun h2 => by rw [h1.2 h2] at hx; cases hx)
            generalize hx : x.pin t = pv at hcp hdd
            have hcl := Lib.hid (EW.Unpin hC.out (hE.out.below hC.out (Below.refl wr.heap.size wr).drew) (t : Int) pv hdd)
            replace hx := Lib.hid hx
            clear hdd
            cases pv
            all_goals
              go_wp2_with fail
              go_region_with ((go_at_call 15; refine hcl.out.mono ?_; rintro z w6 ⟨rfl, h6⟩; obtain ⟨wv6, rv6, ho6, _⟩ := safe_open h6; have c6 := ho6.cp t ht8; rw [hx.out] at c6; have f6 := (ho6.fr t).2.2.2; have o6 := ho6.lt.2.2.2; have hs6 := Lib.hid (ho6.setP t false ht8); clear ho6 h6))
              all_goals
                go_wp2_with fail
                go_loopg [10] x.waits.length (fun gk iv wx => ∃ i : Nat, gk = x.waits.length - i ∧ i ≤ x.waits.length ∧ iv = .int .i64 i ∧ EW (Jsafe m B) m e m w wx { x with pin := set8 x.pin t false, waits := (x.waits.take i).map (fun p => set8 p t false) ++ x.waits.drop i } ⟨dropTask t g.S, g.c, g.now⟩ false L)
                case atStart => exact ⟨0, rfl, Nat.zero_le _, rfl, hs6.out⟩
                case round =>
                  obtain ⟨i, rfl, hi, rfl, hU⟩ := hrel
                  clear hs6 c6 f6 o6 hcp hpl hcl
                  obtain ⟨wv7, rv7, ho7, _⟩ := safe_open hU
                  have hll : ((x.waits.take i).map (fun p => set8 p t false) ++ x.waits.drop i).length = x.waits.length := by simp; omega
                  have hxw : x.waits.length < 1000 := by have := hP.out.bd; have := hP.out.lw; omega
                  by_cases hlt7 : i < x.waits.length
                  · obtain ⟨p, hp⟩ : ∃ p, x.waits[i]? = some p := ⟨_, List.getElem?_eq_getElem hlt7⟩
                    obtain ⟨q, c7, hv7, hq7, hc7, hf7, hrow7⟩ := ho7.rw'.setCell (y := set8 p t false) (u := .bool false) (mid_get (fun p => set8 p t false) hp) ht8 (wcell_set p t ht8 false)
                    have hs7 := Lib.hid (ho7.setW _ _ ((Upd.refl _ _).setCell (p := ⟨q, i * 8 + t, none⟩) (by rw [hq7]; simp) (.bool false)) hrow7)
                    rw [wcell_get p t ht8] at hc7
                    rw [hll] at hv7
                    have cw7 := ho7.cw
                    rw [hv7] at cw7
                    have ql7 := block_lt_of_cell hc7
                    have wl7 := ho7.lt.1
                    clear hv7 hq7 hrow7 ho7
                    replace hp := Lib.hid hp
                    replace hU := Lib.hid hU
                    replace hll := Lib.hid hll
                    go_wp2_with fail
                    go_roundg (x.waits.length - (i + 1))
                    case measure => omega
                    case rel => exact ⟨i + 1, rfl, by omega, by go_num, by have := hs7.out; rw [mid_set (fun p => set8 p t false) hlt7 hp.out] at this; exact this⟩
                  · obtain rfl : i = x.waits.length := by omega
                    obtain ⟨a7, c7, hv7⟩ := ho7.rw'.shape
                    rw [hll] at hv7
                    have cw7 := ho7.cw
                    rw [hv7] at cw7
                    rw [List.take_length, List.drop_length, List.append_nil] at hU
                    clear hv7 ho7
                    replace hU := Lib.hid hU
                    replace hll := Lib.hid hll
                    go_wp2_with fail
                    go_meet
                    exact ⟨_, _, _, _, _, hU.out, hP.out.unpin ht8⟩
          · have hd1' : (d == 1) = false := beq_eq_false_iff_ne.2 hd1
            by_cases hd2 : d = 2
            ·
              subst hd2
              obtain ⟨wv, rv, ho, _⟩ := safe_open hE.out
              obtain ⟨a1, c1, e1⟩ := ho.rw'.shape
              subst e1
              have cw := ho.cw
              have hE1 := ho.addN
              have hlw := hP.out.lw
              have hxw : x.waits.length < 1000 := by have := hP.out.bd; omega
              have hlr : x.ran.length = x.waits.length := by have := hP.out.lr; omega
              rw [← hlw] at hE1
              replace hE1 := Lib.hid hE1
              replace hlw := Lib.hid hlw
              clear ho
              go_upto_region 29 with fail
              clear cw hE
              have hmz : wr.heap.size < (wr.alloc (.cells #[.int .i64 x.waits.length] 3)).heap.size := by simp
              generalize wr.alloc (.cells #[.int .i64 x.waits.length] 3) = w4 at *
              generalize wr.heap.size = nb at *
              obtain ⟨wv4, rv4, ho4, _⟩ := safe_open hE1.out
              have wl4 := ho4.lt.1
              have p0 : w4.cell? ⟨B.pb, 0, none⟩ = some (.bool (x.pin 0)) := ho4.cp 0 (by decide)
              have p1 : w4.cell? ⟨B.pb, 1, none⟩ = some (.bool (x.pin 1)) := ho4.cp 1 (by decide)
              have p2 : w4.cell? ⟨B.pb, 2, none⟩ = some (.bool (x.pin 2)) := ho4.cp 2 (by decide)
              have p3 : w4.cell? ⟨B.pb, 3, none⟩ = some (.bool (x.pin 3)) := ho4.cp 3 (by decide)
              have p4 : w4.cell? ⟨B.pb, 4, none⟩ = some (.bool (x.pin 4)) := ho4.cp 4 (by decide)
              have p5 : w4.cell? ⟨B.pb, 5, none⟩ = some (.bool (x.pin 5)) := ho4.cp 5 (by decide)
              have p6 : w4.cell? ⟨B.pb, 6, none⟩ = some (.bool (x.pin 6)) := ho4.cp 6 (by decide)
              have p7 : w4.cell? ⟨B.pb, 7, none⟩ = some (.bool (x.pin 7)) := ho4.cp 7 (by decide)
              clear ho4
              have hbs4 := hE1.out.bel.size
              have hbs5 := Lib.hid (show m ≤ (w4.alloc (.cells #[.bool (x.pin 0), .bool (x.pin 1), .bool (x.pin 2), .bool (x.pin 3), .bool (x.pin 4), .bool (x.pin 5), .bool (x.pin 6), .bool (x.pin 7)] 43)).heap.size by have := hE1.out.low; simp; omega)
              have hb5 : Below w4.heap.size w4 (w4.alloc (.cells #[.bool (x.pin 0), .bool (x.pin 1), .bool (x.pin 2), .bool (x.pin 3), .bool (x.pin 4), .bool (x.pin 5), .bool (x.pin 6), .bool (x.pin 7)] 43)) := (Below.refl _ _).alloc (Nat.le_refl _) _
              have hS5 : SrcOf (w4.alloc (.cells #[.bool (x.pin 0), .bool (x.pin 1), .bool (x.pin 2), .bool (x.pin 3), .bool (x.pin 4), .bool (x.pin 5), .bool (x.pin 6), .bool (x.pin 7)] 43)) (.slice (some ⟨w4.heap.size, 0, none⟩) 1 1) 1 8 ([x.pin].flatMap wcell) := SrcOf.one w4 43 (wcell x.pin) (wcell_one _)
              replace hS5 := Lib.hid hS5
              obtain ⟨wv5, rv5, ho5, _⟩ := safe_open (hE1.out.below hC.out hb5)
              obtain ⟨a5, c5, e5⟩ := ho5.rw'.shape
              subst e5
              have cw5 : w4.cell? ⟨B.wb, 0, none⟩ = some (.slice a5 x.waits.length c5) := by rw [← hb5.cell wl4]; exact ho5.cw
              have hR5 := Lib.hid ho5.rw'
              have hk5 := Lib.hid ho5.kw
              have happ5 := Lib.hid ho5.appW
              obtain ⟨i8, hi8, hz8, hs8, hy8⟩ := bool8_info
              replace hi8 := Lib.hid hi8
              replace hz8 := Lib.hid hz8
              replace hs8 := Lib.hid hs8
              replace hy8 := Lib.hid hy8
              replace hb5 := Lib.hid hb5
              clear ho5 hbs4
              go_upto_region 30 with (at_builtin; refine wpList_append_row (f := wcell) (M := [x.pin]) _ rfl _ _ 44 rfl m 43 i8 (.agg #[.bool false, .bool false, .bool false, .bool false, .bool false, .bool false, .bool false, .bool false]) 8 8 Try.underlying44 hi8.out hz8.out hs8.out hy8.out rfl (by decide) (.slice a5 x.waits.length c5) x.waits rfl hR5.out (.slice (some ⟨w4.heap.size, 0, none⟩) 1 1) rfl hS5.out (len_ok hxw) (len_ok8 hxw) hbs5.out ?_; intro a6 c6 w6 hrow hu hat; have hk6 := (hk5.out _ hu).1; have hf6 := (hk5.out _ hu).2; have hE6 := Lib.hid (happ5.out _ _ _ hu hrow (own_of_at hat)); clear hrow hu hat)
              have hE7 : Hid (EW (Jsafe m B) m e m w (w6.setCell ⟨B.wb, 0, none⟩ (.slice a6 (x.waits.length + 1) c6)) { x with waits := x.waits ++ [x.pin], nbs := x.nbs ++ [nb] } g false L) := hE6
              clear hE6 hk6 hf6 p0 p1 p2 p3 p4 p5 p6 p7 cw5 hR5 hk5 happ5 hS5 hbs5 hb5 wl4 hi8 hz8 hs8 hy8 hE1
              generalize w6.setCell ⟨B.wb, 0, none⟩ (.slice a6 (x.waits.length + 1) c6) = w7 at *
              obtain ⟨wv7, rv7, ho7, _⟩ := safe_open hE7.out
              have rl7 := ho7.lt.2.1
              clear ho7
              have hb8 : Below w7.heap.size w7 (w7.alloc (.cells #[.int .i64 0] 3)) := (Below.refl _ _).alloc (Nat.le_refl _) _
              have hbs8 := Lib.hid (show m ≤ (w7.alloc (.cells #[.int .i64 0] 3)).heap.size by have := hE7.out.low; simp; omega)
              have hS8 : SrcOf (w7.alloc (.cells #[.int .i64 0] 3)) (.slice (some ⟨w7.heap.size, 0, none⟩) 1 1) 1 1 ([(0 : Int)].flatMap intCell) := SrcOf.one w7 3 (intCell 0) (intCell_one 0)
              replace hS8 := Lib.hid hS8
              obtain ⟨wv8, rv8, ho8, _⟩ := safe_open (hE7.out.below hC.out hb8)
              obtain ⟨a8, c8, e8⟩ := ho8.rr.shape
              subst e8
              have cr8 : w7.cell? ⟨B.rb, 0, none⟩ = some (.slice a8 x.ran.length c8) := by rw [← hb8.cell rl7]; exact ho8.cr
              have hR8 := Lib.hid ho8.rr
              have hk8 := Lib.hid ho8.kr
              have happ8 := Lib.hid ho8.appR
              have hxr : x.ran.length < 1000 := by omega
              replace hlr := Lib.hid hlr
              obtain ⟨ii, hi8, hz8, hs8, hy8⟩ := int_info
              replace hi8 := Lib.hid hi8
              replace hz8 := Lib.hid hz8
              replace hs8 := Lib.hid hs8
              replace hy8 := Lib.hid hy8
              replace hb8 := Lib.hid hb8
              clear ho8
              go_upto_region 31 with (at_builtin; refine wpList_append_row (f := intCell) (M := [(0 : Int)]) _ rfl _ _ 27 rfl m 3 ii (.int .i64 0) 1 8 Try.underlying27 hi8.out hz8.out hs8.out hy8.out rfl (by decide) (.slice a8 x.ran.length c8) x.ran rfl hR8.out (.slice (some ⟨w7.heap.size, 0, none⟩) 1 1) rfl hS8.out (len_ok hxr) (len_ok8 hxr) hbs8.out ?_; intro a9 c9 w9 hrow hu hat; have hk9 := (hk8.out _ hu).1; have hf9 := (hk8.out _ hu).2; have hE9 := Lib.hid (happ8.out _ _ _ hu hrow (own_of_at hat)); clear hrow hu hat)
              have hE10 : Hid (EW (Jsafe m B) m e m w (w9.setCell ⟨B.rb, 0, none⟩ (.slice a9 (x.ran.length + 1) c9)) { x with waits := x.waits ++ [x.pin], ran := x.ran ++ [0], nbs := x.nbs ++ [nb] } g false L) := hE9
              clear hE9 hk9 hf9 cr8 hR8 hk8 happ8 hS8 hbs8 hb8 rl7 hi8 hz8 hs8 hy8 hE7
              generalize w9.setCell ⟨B.rb, 0, none⟩ (.slice a9 (x.ran.length + 1) c9) = w10 at *
              have hL : L.length < 1000000 := by
                have h1 : L.length ≤ x.nbs.length := by rw [hP.out.eL, List.length_map]; exact Nat.le_trans (nodup_sub_len (m := List.range x.nbs.length) (hP.out.pI.imp (fun hab => Nat.ne_of_lt hab)) (fun a ha => List.mem_range.2 (hP.out.lI a ha))) (by simp)
                have := hP.out.bd; omega
              have hcl := Lib.hid (EW.Retire hC.out hE10.out 24 (capsS B nb) hL)
              clear hE10
              go_wp2_with fail
              refine hcl.out.mono ?_
              clear hcl
              rintro z w11 ⟨rfl, h11⟩
              replace h11 := Lib.hid h11
              go_wp2_with fail
              go_meet
              exact ⟨_, _, _, _, _, h11.out, hP.out.retire nb⟩
            · have hd2' : (d == 2) = false := beq_eq_false_iff_ne.2 hd2
              by_cases hd3 : d = 3
              ·
                subst hd3
                have hcw := Lib.hid (EW.Waiting hC.out hE.out)
                go_wp2_with fail
                refine hcw.out.mono ?_
                clear hcw
                rintro z w4 ⟨rfl, h4⟩
                have hnd : x.nbs.Nodup := by obtain ⟨_, _, _, h⟩ := safe_open h4; exact h
                have hcl := Lib.hid (EW.Collect hC.out h4 (fun r hr => by
                  rw [hP.out.eL] at hr
                  obtain ⟨i, hi, rfl⟩ := List.mem_map.1 hr
                  have hil := hP.out.lI i hi
                  exact ⟨rfl, _, List.mem_iff_getElem?.2 ⟨i, by rw [List.getD_eq_getElem?_getD, List.getElem?_eq_getElem hil]; rfl⟩, rfl⟩) (by
                    have h1 : L.length ≤ x.nbs.length := by rw [hP.out.eL, List.length_map]; exact Nat.le_trans (nodup_sub_len (m := List.range x.nbs.length) (hP.out.pI.imp (fun hab => Nat.ne_of_lt hab)) (fun a ha => List.mem_range.2 (hP.out.lI a ha))) (by simp)
                    have := hP.out.bd; omega) (by omega) ⟨fun nb h => h, by rw [hP.out.lw]; exact Nat.le_refl _, by rw [hP.out.lr]; exact Nat.le_refl _⟩)
                replace h4 := Lib.hid h4
                go_wp2_with fail
                refine hcl.out.mono ?_
                clear hcl
                rintro z w5 ⟨n, kept, later, x', g', rfl, hco, h5⟩
                obtain ⟨rfl, rfl, hln, hnb, I', hP', _⟩ := hP.out.collect hco hnd
                rw [List.append_nil] at h5
                have hcw := Lib.hid (EW.Waiting (clo_safe B m e m x.nbs) h5)
                replace h5 := Lib.hid h5
                replace hP' := Lib.hid hP'
                clear hco h4
                go_wp2_with fail
                refine hcw.out.mono ?_
                clear hcw
                rintro z w6 ⟨rfl, h6⟩
                replace h6 := Lib.hid h6
                have hsub : (L.length : Int) - (kept.length : Int) = (n : Int) := by omega
                clear h5
                have hLs : L.length < 1000 := by
                  have h1 : L.length ≤ x.nbs.length := by rw [hP.out.eL, List.length_map]; exact Nat.le_trans (nodup_sub_len (m := List.range x.nbs.length) (hP.out.pI.imp (fun hab => Nat.ne_of_lt hab)) (fun a ha => List.mem_range.2 (hP.out.lI a ha))) (by simp)
                  have := hP.out.bd; omega
                have hks : kept.length < 1000 := by omega
                have hbc : ((n : Int) != (L.length : Int) - (kept.length : Int)) = false := by rw [bne_eq_false_iff_eq]; omega
                clear hsub hln
                go_wp2_with fail
                go_meet
                exact ⟨_, _, _, _, _, h6.out, hP'.out⟩
              ·
                have hd3' : (d == 3) = false := beq_eq_false_iff_ne.2 hd3
                go_wp2_with fail
                go_meet
                exact ⟨_, _, _, _, _, hE.out, hP.out.up⟩
      case rest =>
        obtain ⟨x2, g2, L2, ats2, I2, hE2, hP2⟩ := hcut
        obtain ⟨wv2, rv2, ho2, _⟩ := safe_open hE2
        have hcg2 := ho2.cg
        rw [hP2.wr] at hcg2
        replace hE2 := Lib.hid hE2
        replace hP2 := Lib.hid hP2
        clear ho2 hE hP q0 q1 hro
        go_wp2_with fail
        go_roundg (len - (k + 1))
        case measure => omega
        case rel => exact ⟨k + 1, rfl, by omega, by go_num, x2, g2, L2, ats2, I2, hE2.out, hP2.out⟩
    ·
      obtain rfl : k = len := by omega
      replace hE := Lib.hid hE
      replace hP := Lib.hid hP
      have hC := Lib.hid (clo_safe B m e m x.nbs)
      have hxw : x.waits.length < 1000 := by have := hP.out.bd; have := hP.out.lw; omega
      clear hro
      go_wp2_with fail
      go_loopg [14] 8 (fun gk iv wx => ∃ (i : Nat) (g2 : EpG), gk = 8 - i ∧ i ≤ 8 ∧ iv = .int .i64 i ∧ EW (Jsafe m B) m e m w wx x g2 false L ∧ (∀ y, y ∈ g2.S → y ∈ g.S ∧ ∀ t : Nat, t < i → y.task ≠ t))
      case atStart => exact ⟨0, g, rfl, by omega, rfl, hE.out, fun y hy => ⟨hy, fun t ht => by omega⟩⟩
      case round =>
        obtain ⟨i, g2, rfl, hi, rfl, hE2, hS2⟩ := hrel
        clear hE
        by_cases hlt2 : i < 8
        · have hcl := Lib.hid (EW.Unpin hC.out hE2 (i : Int) _ rfl)
          replace hE2 := Lib.hid hE2
          replace hS2 := Lib.hid hS2
          go_wp2_with fail
          refine hcl.out.mono ?_
          clear hcl
          rintro z w5 ⟨rfl, h5⟩
          replace h5 := Lib.hid h5
          go_wp2_with fail
          go_roundg (8 - (i + 1))
          case measure => omega
          case rel =>
            exact ⟨i + 1, ⟨dropTask i g2.S, g2.c, g2.now⟩, rfl, by omega, by go_num, h5.out, fun y hy => by
              have hy2 : y ∈ g2.S ∧ y.task ≠ i := by simpa [dropTask] using hy
              refine ⟨(hS2.out y hy2.1).1, fun t ht => ?_⟩
              by_cases hti : t = i
              · subst hti; exact hy2.2
              · exact (hS2.out y hy2.1).2 t (by omega)⟩
        · obtain rfl : i = 8 := by omega
          have hS0 : g2.S = [] := by
            apply List.eq_nil_iff_forall_not_mem.2
            intro y hy
            obtain ⟨h1, h2⟩ := hS2 y hy
            obtain ⟨⟨t, ht, hyt⟩, _⟩ := hP.out.tk y h1
            exact h2 t ht hyt
          obtain ⟨wv, rv, ho, hnd⟩ := safe_open hE2
          obtain ⟨a1, c1, e1⟩ := ho.rw'.shape
          subst e1
          have cw := ho.cw
          have fw := (ho.fr 0).1
          have wl := ho.lt.1
          have hrow := row_made (w := wr) (base := m) wcell_len wcell_one (by decide) none8 x.waits.length (by unfold maxLen; omega) hE2.low 43
          have hE3 := ho.appW _ _ _ (Upd.of_below ((Below.refl wr.heap.size wr).alloc (Nat.le_refl _) _)) hrow (fun q hq => by simp [Value.ownBlock] at hq; exact .inr (Nat.le_of_eq hq))
          have hmk := make8 x.waits.length hxw
          rw [alloc_set _ _ wl] at hE3
          replace hE3 := Lib.hid hE3
          clear ho hE2 hS2 hrow
          go_upto_region 45 with fail
          clear cw fw hmk
          generalize ((wr.setCell ⟨B.wb, 0, none⟩ (.slice (some ⟨wr.heap.size, 0, none⟩) x.waits.length x.waits.length)).alloc (.cells (madeCells (wcell none8).toArray (x.waits.length * 8)) 43)) = w4 at *
          have hcl := Lib.hid (EW.Collect hC.out hE3.out (fun r hr => by
            rw [hP.out.eL] at hr
            obtain ⟨i, hi, rfl⟩ := List.mem_map.1 hr
            have hil := hP.out.lI i hi
            exact ⟨rfl, _, List.mem_iff_getElem?.2 ⟨i, by rw [List.getD_eq_getElem?_getD, List.getElem?_eq_getElem hil]; rfl⟩, rfl⟩) (by
              have h1 : L.length ≤ x.nbs.length := by rw [hP.out.eL, List.length_map]; exact Nat.le_trans (nodup_sub_len (m := List.range x.nbs.length) (hP.out.pI.imp (fun hab => Nat.ne_of_lt hab)) (fun a ha => List.mem_range.2 (hP.out.lI a ha))) (by simp)
              have := hP.out.bd; omega) (by omega) ⟨fun nb h => h, by show _ ≤ (List.replicate x.waits.length none8).length; rw [List.length_replicate, hP.out.lw]; exact Nat.le_refl _, by show _ ≤ x.ran.length; rw [hP.out.lr]; exact Nat.le_refl _⟩)
          clear hE3
          go_wp2_with fail
          refine hcl.out.mono ?_
          clear hcl
          rintro z w5 ⟨n, kept, later, x', g', rfl, hco, h5⟩
          obtain ⟨rfl, rfl, rfl, hwr', hrl', hran⟩ := hP.out.finish hnd hS0 hco
          rw [List.append_nil] at h5
          obtain ⟨wv5, rv5, ho5, _⟩ := safe_open h5
          obtain ⟨a5, c5, e5⟩ := ho5.rr.shape
          subst e5
          have cr5 := ho5.cr
          have hrow5 := Lib.hid ho5.rr
          have hxr : x'.ran.length < 1000 := by have := hP.out.lr; have := hP.out.lw; omega
          have hnr : x'.ran.length = x.nbs.length := by rw [hrl']; exact hP.out.lr
          replace h5 := Lib.hid h5
          replace hran := Lib.hid hran
          clear ho5 hco hP hrl'
          go_wp2_with fail
          go_loopg [15] x'.ran.length (fun gk iv wx => ∃ j : Nat, gk = x'.ran.length - j ∧ j ≤ x'.ran.length ∧ iv = .int .i64 j ∧ wx = w5)
          case atStart => exact ⟨0, rfl, Nat.zero_le _, rfl, rfl⟩
          case round =>
            obtain ⟨j, rfl, hj, rfl, rfl⟩ := hrel
            by_cases hlt7 : j < x'.ran.length
            · have hget : x'.ran[j]? = some 1 := by
                have := hran.out j (by omega)
                rw [List.getD_eq_getElem?_getD, List.getElem?_eq_getElem hlt7] at this
                rw [List.getElem?_eq_getElem hlt7]
                exact congrArg some this
              obtain ⟨b', cap', he, _, _, _, _, _, _, hcell⟩ := hrow5.out.at hget
              have h0 := hcell 0 _ rfl
              obtain ⟨rfl, rfl⟩ : a5 = some ⟨b', 0, none⟩ ∧ c5 = cap' := by injection he with h1 h2 h3; exact ⟨h1, h3⟩
              rw [Nat.mul_one, Nat.add_zero] at h0
              replace hget := Lib.hid hget
              replace hnr := Lib.hid hnr
              clear hcell he
              go_wp2_with fail
              go_roundg (x'.ran.length - (j + 1))
              case measure => omega
              case rel => exact ⟨j + 1, rfl, by omega, by go_num, rfl⟩
            · obtain rfl : j = x'.ran.length := by omega
              have hcw := Lib.hid (EW.Waiting hC.out h5.out)
              replace hnr := Lib.hid hnr
              go_wp2_with fail
              refine hcw.out.mono ?_
              clear hcw
              rintro z w6 ⟨rfl, h6⟩
              obtain ⟨wv6, rv6, ho6, _⟩ := safe_open h6
              have cg6 := ho6.cg
              rw [hwr'] at cg6
              replace h6 := Lib.hid h6
              clear ho6
              go_wp2_with fail
              go_ret
              exact ⟨rfl, h6.out.bel⟩
end Go.Proofs.Ytidiefcgepllmaa
