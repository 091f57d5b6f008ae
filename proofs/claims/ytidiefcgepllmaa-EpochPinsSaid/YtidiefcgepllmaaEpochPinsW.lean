/- The walk of the law EpochPins: for any steps it returns true. -/
import Derived.Test.YtidiefcgepllmaaEpochPins
import Derived.Test.YtidiefcgepllmaaFlat
import Derived.StillTailTactics
import Derived.Deep.LoopGhost
import Derived.Deep.DeepCutAuto
import Derived.Deep.RegionWith
import Derived.Deep.CutBlock
namespace Go.Proofs.Ytidiefcgepllmaa
open Go.RowKit
structure PI (w0 w : World) (base ob e m : Nat) (x : List Bool) (g : EpG) (L : List Ret) (k : Nat) : Prop where
  ew : EW (Jb5 base ob) base e m w0 w x g false L
  ps : PinsOf x g.S
  al : ∀ r, r ∈ L → ApF 26 r
  ln : L.length ≤ k
  nw : g.now ≤ k ∧ g.S.length ≤ k
theorem PinsOf.wf {x : List Bool} {S : List Pn} (h : PinsOf x S) : ∀ y, y ∈ S → (Lit.int .i64 y.task).wf = true := by
  intro y hy
  obtain ⟨i, h1, h2, _⟩ := h.all y hy
  rw [h2]
  exact WalkArith.wf_i64 (by omega)
theorem set_same {x : List Bool} {n : Nat} (hn : n < x.length) (h : x.getD n false = true) : x.set n true = x := by
  apply List.ext_getElem?
  intro i
  rw [List.getElem?_set]
  split
  · rename_i hni
    subst hni
    rw [List.getD_eq_getElem?_getD, List.getElem?_eq_getElem hn] at h
    rw [List.getElem?_eq_getElem hn]
    simpa using h.symm
  · rfl
set_option maxRecDepth 100000 in
set_option maxHeartbeats 4000000 in
theorem pinsLaw_walk (s : Option Addr) (len cap : Nat) (rows : List (List Value)) (w : World) (hr : IsFlat [.inl .u8] w s len rows) :
    Calls Try.prog 7 #[.slice s len cap] w fun e w' => e = .returned (.bool true) ∧ Below w.heap.size w w' := by
  have hro := Lib.hid (byte_row hr)
  have hmf : ∀ (fn : Fn) (first cap : Array Value) (w : World), (Instr.makeFunc fn first cap).run Try.prog w = .ok (.func fn first cap) w := fun _ _ _ _ => rfl
  clear hr
  go_enter Try.func7, Try.ntmps7
  go_wp2_with fail
  refine (awake4_any _).mono ?_
  rintro e w1 ⟨rfl, hb1⟩
  have HB1 := Lib.hid hb1
  clear hb1
  by_cases hl : 300 < len
  · go_wp2_with fail
    go_ret
    exact ⟨rfl, HB1.out⟩
  go_wp2_with fail
  refine (epNew_any w1.heap.size w1).mono ?_
  rintro z w2 ⟨rfl, hb2, hE2, hs2⟩
  have hB3 : Below w2.heap.size w2 (w2.alloc (.cells #[.bool false, .bool false, .bool false, .bool false, .bool false] 48)) := (Below.refl _ _).alloc (Nat.le_refl _) _
  have hC := Lib.hid (clo_pins w1.heap.size w2.heap.size (w1.heap.size + 1) w1.heap.size)
  have h3 : PI w (w2.alloc (.cells #[.bool false, .bool false, .bool false, .bool false, .bool false] 48)) w1.heap.size w2.heap.size (w1.heap.size + 1) w1.heap.size [false, false, false, false, false] ⟨[], 0, 0⟩ [] 0 := by
    have hsz := HB1.out.size
    refine ⟨⟨.slice none 0 0, [w2.heap.size], ⟨⟨hE2.below hB3, ⟨rfl, by omega, rfl, heap_alloc_new _ _⟩, by simp; omega, by simp; omega, by simp [Value.ownBlock]⟩, (HB1.out.trans (hb2.mono hsz)).trans (hB3.mono (Nat.le_trans hsz hb2.size)), ?_, Nat.le_trans hb2.size hB3.size⟩⟩, PinsOf.nil, by simp, by simp, by simp⟩
    intro k hk
    simp [foot, Value.ownBlock] at hk
    omega
  replace h3 := Lib.hid h3
  clear hE2 hb2 hB3 hs2 HB1
  go_wp2_with fail
  generalize w2.alloc (.cells #[.bool false, .bool false, .bool false, .bool false, .bool false] 48) = w3 at *
  generalize w2.heap.size = ob at *
  generalize w1.heap.size + 1 = e at *
  generalize w1.heap.size = m at *
  go_loopg [5] len (fun gk iv wr => ∃ (k : Nat) (x : List Bool) (g : EpG) (L : List Ret), gk = len - k ∧ k ≤ len ∧ iv = .int .i64 k ∧ PI w wr m ob e m x g L k)
  case atStart => exact ⟨0, _, _, _, rfl, Nat.zero_le _, rfl, h3.out⟩
  case round =>
    obtain ⟨k, x, g, L, rfl, hk, rfl, hI⟩ := hrel
    clear h3
    by_cases hlt : k < len
    · obtain ⟨b, off, y, rfl, g0, hy0, hy1⟩ := hro.out k hlt
      obtain ⟨q, hq, hq4⟩ : ∃ q : Nat, y % 4 = q ∧ q < 4 := ⟨(y % 4).toNat, by omega, by omega⟩
      obtain ⟨nn, hnn, hn5⟩ : ∃ nn : Nat, y / 4 % 5 = nn ∧ nn < 5 := ⟨(y / 4 % 5).toNat, by omega, by omega⟩
      replace g0 := keep hI.ew.bel g0
      have hro' := hro
      clear hro
      replace hI := Lib.hid hI
      go_upto_block 2 with fail
      go_cut [33] (fun _ wx => ∃ (x : List Bool) (g : EpG) (L : List Ret), PI w wx m ob e m x g L (k + 1))
      case first =>
        clear g0 hy0 hy1
        obtain ⟨x5, hc, hf, hol⟩ := ew_b5 hI.out.ew
        have hcn := hc nn hn5
        replace hc := Lib.hid hc
        rcases (show q = 0 ∨ q = 1 ∨ q = 2 ∨ q = 3 by omega) with rfl | rfl | rfl | rfl
        · -- <<ret
          have hcl := Lib.hid (EW.Retire hC.out hI.out.ew 26 #[] (by have := hI.out.ln; omega))
          go_wp2_with fail
          refine hcl.out.mono ?_
          rintro z w4 ⟨rfl, h4⟩
          have h5 : PI w w4 m ob e m x g (L ++ [⟨26, #[], g.now⟩]) (k + 1) := ⟨h4, hI.out.ps, fun r hr => by
            rcases List.mem_append.1 hr with hr | hr
            · exact hI.out.al r hr
            · simp at hr; subst hr; exact ⟨rfl, rfl⟩, by have := hI.out.ln; simp; omega, by have := hI.out.nw; omega⟩
          replace h5 := Lib.hid h5
          clear h4 hcl
          go_wp2_with fail
          go_meet
          exact ⟨_, _, _, h5.out⟩
        · -- <<pin
          by_cases hx : x.getD nn false = true
          · have hyes := hI.out.ps.back nn hn5 hx
            have hdl := hI.out.ew.below hC.out (Below.refl _ _).drew
            have hcl := Lib.hid (EW.Pin_no hC.out hdl (nn : Int) hyes)
            rw [hx] at hcn
            replace hx := Lib.hid hx
            clear hyes hdl
            go_wp2_with fail
            go_region_with ((go_at_call 12; refine hcl.out.mono ?_; rintro z w6 ⟨rfl, h6⟩; have c6 := (ew_b5 h6).2.1 nn hn5; rw [hx.out] at c6; have f6 := (ew_b5 h6).2.2.1; have o6 := (ew_b5 h6).2.2.2; replace h6 := Lib.hid h6))
            all_goals
              go_wp2_with fail
              have hs := h6.out.set5 nn true
              have hxx : x.set nn true = x := set_same (by omega) hx.out
              rw [hxx] at hs
              go_meet
              exact ⟨x, g, L, hs, hI.out.ps, hI.out.al, by have := hI.out.ln; omega, by have := hI.out.nw; omega⟩
          · replace hx : x.getD nn false = false := by simpa using hx
            have hno : ∀ y, y ∈ g.S → y.task ≠ (nn : Int) := fun y hy hh => by
              have h1 := hI.out.ps.is hn5
              rw [hx] at h1
              exact of_decide_eq_false h1 ⟨y, hy, hh⟩
            have hdl := hI.out.ew.below hC.out (Below.refl _ _).drew
            have hcl := Lib.hid (EW.Pin_yes hC.out hdl (nn : Int) hno (by have := hI.out.nw; omega))
            rw [hx] at hcn
            replace hx := Lib.hid hx
            clear hno hdl
            go_wp2_with fail
            go_region_with ((go_at_call 12; refine hcl.out.mono ?_; rintro z w6 ⟨rfl, h6⟩; have c6 := (ew_b5 h6).2.1 nn hn5; rw [hx.out] at c6; have f6 := (ew_b5 h6).2.2.1; have o6 := (ew_b5 h6).2.2.2; replace h6 := Lib.hid h6))
            all_goals
              go_wp2_with fail
              have hs := h6.out.set5 nn true
              go_meet
              exact ⟨x.set nn true, _, L, hs, hI.out.ps.pin hn5 _ _, hI.out.al, by have := hI.out.ln; omega, by have := hI.out.nw; simp; omega⟩
        · -- <<unp
          have hdl := hI.out.ew.below hC.out (Below.refl _ _).drew
          have hcl := Lib.hid (EW.Unpin hC.out hdl (nn : Int) (x.getD nn false) (hI.out.ps.is hn5))
          have hdn : (dropTask nn g.S).length ≤ g.S.length := List.length_filter_le _ _
          generalize hgx : x.getD nn false = d at hcl hcn
          go_wp2_with fail
          go_region_with ((go_at_call 15; refine hcl.out.mono ?_; rintro z w6 ⟨rfl, h6⟩; have c6 := (ew_b5 h6).2.1 nn hn5; rw [hgx] at c6; have f6 := (ew_b5 h6).2.2.1; have o6 := (ew_b5 h6).2.2.2; replace h6 := Lib.hid h6))
          all_goals
            go_wp2_with fail
            have hs := h6.out.set5 nn false
            go_meet
            exact ⟨x.set nn false, _, L, hs, hI.out.ps.unpin hn5, hI.out.al, by have := hI.out.ln; omega, by have := hI.out.nw; simp; omega⟩
        · -- <<col
          have hcl := Lib.hid (EW.Collect hC.out hI.out.ew hI.out.al (by have := hI.out.ln; omega) (by omega))
          go_wp2_with fail
          refine hcl.out.mono ?_
          rintro z w4 ⟨n, kept, later, x', g', rfl, hco, h4⟩
          obtain ⟨rfl, rfl, rfl⟩ := hco.same (fun _ _ _ _ _ _ h => h)
          obtain ⟨hk1, hk2⟩ := hco.kept_sub
          have h5 : PI w w4 m ob e m x' g' (kept ++ []) (k + 1) := ⟨h4, hI.out.ps, fun r hr => hI.out.al r (hk1 r (by simpa using hr)), by have := hI.out.ln; simp; omega, by have := hI.out.nw; omega⟩
          replace h5 := Lib.hid h5
          clear h4 hcl hco hk1 hk2
          go_wp2_with fail
          go_meet
          exact ⟨_, _, _, h5.out⟩
      case rest =>
        obtain ⟨x, g, L, hI⟩ := hcut
        have hri := rising_eq hI.ps (by obtain ⟨v, O, h⟩ := hI.ew; exact h.ej.ep.at'.nd)
        have hcl := Lib.hid (EW.Pinned hC.out hI.ew hI.ps.wf (by have := hI.nw; omega))
        have hPI := fun w' h => PI.mk (w := w') (w0 := w) (base := m) (ob := ob) (e := e) (m := m) (x := x) (g := g) (L := L) (k := k + 1) h hI.ps hI.al hI.ln hI.nw
        replace hPI := Lib.hid hPI
        replace hri := Lib.hid hri
        have x5 := hI.ps.len
        clear hI g0
        go_wp2_with fail
        refine hcl.out.mono ?_
        clear hcl
        rintro z w5 ⟨pa, pc, rfl, hrow, hw5, _⟩
        rw [hri.out] at hrow
        rw [hri.out]
        obtain ⟨_, hc, hf, hol⟩ := ew_b5 hw5
        replace hw5 := Lib.hid hw5
        replace hc := Lib.hid hc
        replace hrow := Lib.hid hrow
        go_wp2_with fail
        go_loopg [8, 9] 5 (fun gk kv iv wx => ∃ i : Nat, gk = 5 - i ∧ i ≤ 5 ∧ iv = .int .i64 i ∧ kv = .int .i64 (upto x i).length ∧ wx = w5)
        case atStart => exact ⟨0, rfl, by omega, rfl, by simp [upto], rfl⟩
        case round =>
          obtain ⟨i, rfl, hi, rfl, rfl, rfl⟩ := hrel
          by_cases hi5 : i < 5
          · have hci := hc.out i hi5
            have hus := Lib.hid (upto_succ x i)
            obtain ⟨r, hur⟩ := upto_mono x (i + 1) (5 - (i + 1))
            rw [show i + 1 + (5 - (i + 1)) = 5 by omega] at hur
            by_cases hx : x.getD i false = true
            · have hus2 : upto x (i + 1) = upto x i ++ [(i : Int)] := by rw [hus.out, if_pos hx]
              have hget : (upto x 5)[(upto x i).length]? = some (i : Int) := by rw [hur, hus2]; simp
              have hlu : (upto x i).length < (upto x 5).length := (List.getElem?_eq_some_iff.1 hget).1
              have hl5 : (upto x 5).length ≤ 5 := by
                have := List.length_filter_le (fun i => x.getD i false) (List.range 5)
                simpa [upto] using this
              obtain ⟨b', cap', he, _, _, _, _, _, _, hcell⟩ := hrow.out.at hget
              have h0 := hcell 0 _ rfl
              obtain ⟨rfl, rfl⟩ : pa = some ⟨b', 0, none⟩ ∧ pc = cap' := by injection he with h1 h2 h3; exact ⟨h1, h3⟩
              rw [Nat.mul_one, Nat.add_zero] at h0
              rw [hx] at hci
              replace hget := Lib.hid hget
              replace hus2 := Lib.hid hus2
              replace hx := Lib.hid hx
              clear hcell he hur
              go_wp2_with fail
              go_roundg (5 - (i + 1))
              case measure => omega
              case rel => exact ⟨i + 1, rfl, by omega, by go_num, by rw [hus2.out, List.length_append]; rfl, rfl⟩
            · replace hx : x.getD i false = false := by simpa using hx
              have hus2 : upto x (i + 1) = upto x i := by rw [hus.out, hx]; simp
              rw [hx] at hci
              replace hus2 := Lib.hid hus2
              replace hx := Lib.hid hx
              clear hur
              go_wp2_with fail
              go_roundg (5 - (i + 1))
              case measure => omega
              case rel => exact ⟨i + 1, rfl, by omega, by go_num, by rw [hus2.out], rfl⟩
          · obtain rfl : i = 5 := by omega
            go_wp2_with fail
            go_roundg (len - (k + 1))
            case measure => omega
            case rel => exact ⟨k + 1, x, g, L, rfl, by omega, by go_num, hPI.out _ hw5.out⟩
    · go_wp2_with fail
      go_ret
      exact ⟨rfl, hI.ew.bel⟩
end Go.Proofs.Ytidiefcgepllmaa
