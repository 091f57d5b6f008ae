/- The walk of the law ArtNobody. -/
import Derived.Test.YtmhlokomlngdmaaArtLs
namespace Go.Proofs.Ytmhlokomlngdmaa
open Go.RowKit
theorem ATx.full {w0 w : World} {p t c0 : Nat} {C : Cont} (h : ATx w0 w p t c0 C) (hf : nodesN C = c0) :
    Calls Try.prog 22 #[.pointer (some ⟨p, 0, none⟩)] w fun e w' => e = .returned (.tuple #[.pointer none, .int .i64 5]) ∧ Below w.heap.size w w' := by
  obtain ⟨T, h, rfl, rfl, h1, h2, h3⟩ := h
  have ha := (h.alone h1 h2).1
  have hc : T.free.count true = 0 := by omega
  refine (new_any h.am.bw h.am.cnt).mono ?_
  rintro e w' (⟨hin, _⟩ | ⟨_, he, hb⟩)
  · exact absurd hin (List.count_eq_zero.1 hc)
  · exact ⟨he, hb⟩
set_option maxRecDepth 100000 in
set_option maxHeartbeats 4000000 in
theorem nobodyLaw_walk (key value : ByteArray) (w : World) (_ : key.size ≤ maxLen) (_ : value.size ≤ maxLen) :
    Calls Try.prog 7 #[.string key, .string value] w fun e w' => e = .returned (.bool true) ∧ Below w.heap.size w w' := by
  have g1 := Lib.hid fun W => get_nil key .nilFunc W
  have g2 := Lib.hid fun W => next_nil key true .nilFunc W
  have g3 := Lib.hid fun W => put_nil key value W
  have g4 := Lib.hid fun W => delete_nil key W
  have g5 := Lib.hid fun W => drop_nil W
  have g6 := Lib.hid fun W => len_nil W
  have g7 := Lib.hid fun W => slots_nil W
  have g8 := Lib.hid fun W => all_nil W
  have g9 := Lib.hid fun W => check_nil W
  have g10 := Lib.hid fun W => new_nil W
  have hAw := Lib.hid fun W => awake12_any W
  go_enter Try.func7, Try.ntmps7
  go_wp2_with fail
  refine (g1.out _).mono ?_
  rintro e w1 ⟨rfl, rfl⟩
  go_wp2_with fail
  refine (g2.out _).mono ?_
  rintro e w2 ⟨rfl, rfl⟩
  go_wp2_with fail
  refine (g3.out _).mono ?_
  rintro e w3 ⟨rfl, rfl⟩
  go_wp2_with fail
  refine (g4.out _).mono ?_
  rintro e w4 ⟨rfl, rfl⟩
  go_wp2_with fail
  refine (g5.out _).mono ?_
  rintro e w5 ⟨rfl, rfl⟩
  go_wp2_with fail
  refine (g6.out _).mono ?_
  rintro e w6 ⟨rfl, rfl⟩
  go_wp2_with fail
  refine (g7.out _).mono ?_
  rintro e w7 ⟨rfl, rfl⟩
  go_wp2_with fail
  refine (g8.out _).mono ?_
  rintro e w8 ⟨rfl, hb8⟩
  replace hb8 := Lib.hid hb8
  go_wp2_with fail
  refine (g9.out _).mono ?_
  rintro e w9 ⟨rfl, hb9⟩
  have hb9' := Lib.hid (hb8.out.trans (hb9.mono hb8.out.size))
  clear hb9 hb8
  go_wp2_with fail
  refine (show Calls Try.prog 21 #[.int .i64 1] w9 _ from arNewPool_some 1 w9 (by decide) (by decide)).mono ?_
  rintro e w1 ⟨p, g, f, rfl, hB1, hp1, hg1, hf1, hP1⟩
  have hNw := ATx.new (w0 := w9) hB1 hP1 ⟨hp1, hg1, hf1⟩ (by decide)
  clear hP1 hB1
  go_wp2_with fail
  refine hNw.mono ?_
  clear hNw
  rintro e w2 ⟨t, rfl, hT2⟩
  have hF := hT2.full (by decide)
  replace hT2 := Lib.hid hT2
  go_wp2_with fail
  refine hF.mono ?_
  clear hF
  rintro e w3 ⟨rfl, hb3⟩
  have hb13 := hT2.out.bel.trans (hb3.mono hT2.out.bel.size)
  replace hb13 := Lib.hid hb13
  clear hb3
  go_wp2_with fail
  refine (g10.out _).mono ?_
  rintro e w4 ⟨rfl, hb4⟩
  have hb14 := Lib.hid (hb13.out.trans (hb4.mono hb13.out.size))
  clear hb4
  go_wp2_with fail
  refine (hAw.out _).mono ?_
  rintro e w5 ⟨rfl, hb5⟩
  have hb15 := Lib.hid (hb9'.out.trans ((hb14.out.trans (hb5.mono hb14.out.size)).mono hb9'.out.size))
  clear hb5
  go_wp2_with fail
  go_ret
  exact ⟨by simp, hb15.out⟩
end Go.Proofs.Ytmhlokomlngdmaa
