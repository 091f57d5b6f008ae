/- The walk of the law ArtKnown. -/
import Derived.Test.YtmhlokomlngdmaaArtLs
import Derived.Test.YtmhlokomlngdmaaArtDp
namespace Go.Proofs.Ytmhlokomlngdmaa
open Go.RowKit
def nA : Str := ⟨#[97]⟩
def nAb : Str := ⟨#[97, 98]⟩
def nAc : Str := ⟨#[97, 99]⟩
def nXyz : Str := ⟨#[120, 121, 122]⟩
def nXyw : Str := ⟨#[120, 121, 119]⟩
def nXy : Str := ⟨#[120, 121]⟩
def nQ : Str := ⟨#[113]⟩
def m1 : Str := ⟨#[49]⟩
def m2 : Str := ⟨#[50]⟩
def m3 : Str := ⟨#[51]⟩
def m4 : Str := ⟨#[52]⟩
def m5 : Str := ⟨#[53]⟩
def kC0 : Cont := []
def kC1 : Cont := [(nAb, m1)]
def kC2 : Cont := [(nAb, m1), (nAc, m2)]
def kC3 : Cont := [(nA, m3), (nAb, m1), (nAc, m2)]
def kC4 : Cont := [(nA, m3), (nAb, m1), (nAc, m2), (nXyz, m4)]
def kC5 : Cont := [(nAb, m1), (nAc, m2), (nXyz, m4)]
def kC6 : Cont := [(nAc, m2), (nXyz, m4)]
theorem kp2 : putC kC0 6 nAb m1 = kC1 := by decide
theorem kp2v : putV kC0 6 nAb m1 = .tuple #[.string ⟨#[]⟩, .bool false, .int .i64 0] := by unfold putV; rw [if_pos (by decide)]; rfl
theorem kp3 : putC kC1 6 nAc m2 = kC2 := by decide
theorem kp3v : putV kC1 6 nAc m2 = .tuple #[.string ⟨#[]⟩, .bool false, .int .i64 0] := by unfold putV; rw [if_pos (by decide)]; rfl
theorem ks4 : nodesN kC2 = 4 := by decide
theorem kp5 : putC kC2 6 nA m3 = kC3 := by decide
theorem kp5v : putV kC2 6 nA m3 = .tuple #[.string ⟨#[]⟩, .bool false, .int .i64 0] := by unfold putV; rw [if_pos (by decide)]; rfl
theorem ks6 : nodesN kC3 = 4 := by decide
theorem kp7 : putC kC3 6 nXyz m4 = kC4 := by decide
theorem kp7v : putV kC3 6 nXyz m4 = .tuple #[.string ⟨#[]⟩, .bool false, .int .i64 0] := by unfold putV; rw [if_pos (by decide)]; rfl
theorem kp8 : putC kC4 6 nXyw m5 = kC4 := by decide
theorem kp8v : putV kC4 6 nXyw m5 = .tuple #[.string ⟨#[]⟩, .bool false, .int .i64 5] := by unfold putV; rw [if_neg (by decide)]
theorem kg9 : cget kC4 nXy = none := by decide
theorem ks10 : nodesN kC4 = 5 := by decide
theorem kd11 : cdel kC4 nA = kC5 := by decide
theorem kd11g : cget kC4 nA = some m3 := by decide
theorem ks12 : nodesN kC5 = 5 := by decide
theorem kd13 : cdel kC5 nAb = kC6 := by decide
theorem kd13g : cget kC5 nAb = some m1 := by decide
theorem ks14 : nodesN kC6 = 3 := by decide
theorem kn15 : cnext kC6 nAb false = some (nAc, m2) := by decide
theorem kn16 : cnext kC6 nAc true = some (nXyz, m4) := by decide
theorem kn17 : cnext kC6 nXyz true = none := by decide
set_option maxRecDepth 100000 in
set_option maxHeartbeats 8000000 in
theorem knownLaw_walk (w : World) : Calls Try.prog 6 #[] w fun e w' => e = .returned (.bool true) ∧ Below w.heap.size w w' := by
  have fac : ByteArray.toList nAc = [97, 99] := by rw [ByteArray.toList_eq]; rfl
  have fxyz : ByteArray.toList nXyz = [120, 121, 122] := by rw [ByteArray.toList_eq]; rfl
  have g1 : ByteArray.toList m1 = [49] := by rw [ByteArray.toList_eq]; rfl
  have g2 : ByteArray.toList m2 = [50] := by rw [ByteArray.toList_eq]; rfl
  have g3 : ByteArray.toList m3 = [51] := by rw [ByteArray.toList_eq]; rfl
  have g4 : ByteArray.toList m4 = [52] := by rw [ByteArray.toList_eq]; rfl
  go_enter Try.func6, Try.ntmps6
  go_wp2_with fail
  refine (show Calls Try.prog 21 #[.int .i64 6] w _ from arNewPool_some 6 w (by decide) (by decide)).mono ?_
  rintro e w1 ⟨p, g, f, rfl, hB1, hp1, hg1, hf1, hP1⟩
  have hNw := Lib.hid (ATx.new (w0 := w) hB1 hP1 ⟨hp1, hg1, hf1⟩ (by decide))
  clear hP1 hB1
  go_wp2_with fail
  refine hNw.out.mono ?_
  clear hNw
  rintro e w2 ⟨t, rfl, hT2⟩
  have hT2 : Hid (ATx w w2 p t 6 kC0) := Lib.hid hT2
  have h2 := hT2.out.put nAb m1 (by decide)
  rw [kp2, kp2v] at h2
  go_wp2_with fail
  refine h2.mono ?_
  clear h2
  rintro e w3 ⟨rfl, hT3⟩
  replace hT3 := Lib.hid hT3
  clear hT2
  have h3 := hT3.out.put nAc m2 (by decide)
  rw [kp3, kp3v] at h3
  go_wp2_with fail
  refine h3.mono ?_
  clear h3
  rintro e w4 ⟨rfl, hT4⟩
  replace hT4 := Lib.hid hT4
  clear hT3
  have h4 := hT4.out.slots
  rw [ks4] at h4
  go_wp2_with fail
  refine h4.mono ?_
  clear h4
  rintro e w5 ⟨rfl, hb5⟩
  have hT5 := Lib.hid (hT4.out.below hb5)
  clear hb5 hT4
  have h5 := hT5.out.put nA m3 (by decide)
  rw [kp5, kp5v] at h5
  go_wp2_with fail
  refine h5.mono ?_
  clear h5
  rintro e w6 ⟨rfl, hT6⟩
  replace hT6 := Lib.hid hT6
  clear hT5
  have h6 := hT6.out.slots
  rw [ks6] at h6
  go_wp2_with fail
  refine h6.mono ?_
  clear h6
  rintro e w7 ⟨rfl, hb7⟩
  have hT7 := Lib.hid (hT6.out.below hb7)
  clear hb7 hT6
  have h7 := hT7.out.put nXyz m4 (by decide)
  rw [kp7, kp7v] at h7
  go_wp2_with fail
  refine h7.mono ?_
  clear h7
  rintro e w8 ⟨rfl, hT8⟩
  replace hT8 := Lib.hid hT8
  clear hT7
  have h8 := hT8.out.put nXyw m5 (by decide)
  rw [kp8, kp8v] at h8
  go_wp2_with fail
  refine h8.mono ?_
  clear h8
  rintro e w9 ⟨rfl, hT9⟩
  replace hT9 := Lib.hid hT9
  clear hT8
  have h9 := hT9.out.get nXy (by decide)
  rw [kg9] at h9
  go_wp2_with fail
  refine h9.mono ?_
  clear h9
  rintro e w10 ⟨rfl, hb10⟩
  have hT10 := Lib.hid (hT9.out.below hb10)
  clear hb10 hT9
  have h10 := hT10.out.slots
  rw [ks10] at h10
  go_wp2_with fail
  refine h10.mono ?_
  clear h10
  rintro e w11 ⟨rfl, hb11⟩
  have hT11 := Lib.hid (hT10.out.below hb11)
  clear hb11 hT10
  have h11 := hT11.out.delete nA (by decide)
  rw [kd11, kd11g] at h11
  simp only [Option.getD_some, Option.isSome_some] at h11
  go_wp2_with fail
  refine h11.mono ?_
  clear h11
  rintro e w12 ⟨rfl, hT12⟩
  replace hT12 := Lib.hid hT12
  clear hT11
  have h12 := hT12.out.slots
  rw [ks12] at h12
  go_wp2_with fail
  refine h12.mono ?_
  clear h12
  rintro e w13 ⟨rfl, hb13⟩
  have hT13 := Lib.hid (hT12.out.below hb13)
  clear hb13 hT12
  have h13 := hT13.out.delete nAb (by decide)
  rw [kd13, kd13g] at h13
  simp only [Option.getD_some, Option.isSome_some] at h13
  go_wp2_with fail
  refine h13.mono ?_
  clear h13
  rintro e w14 ⟨rfl, hT14⟩
  replace hT14 := Lib.hid hT14
  clear hT13
  have h14 := hT14.out.slots
  rw [ks14] at h14
  go_wp2_with fail
  refine h14.mono ?_
  clear h14
  rintro e w15 ⟨rfl, hb15⟩
  have hT15 := Lib.hid (hT14.out.below hb15)
  clear hb15 hT14
  have h15 := hT15.out.next nAb false
  rw [kn15] at h15
  rw [show fK (some (nAc, m2)) = nAc from rfl, show fX (some (nAc, m2)) = m2 from rfl] at h15
  go_wp2_with fail
  refine h15.mono ?_
  clear h15
  rintro e w16 ⟨rfl, hb16⟩
  have hT16 := Lib.hid (hT15.out.below hb16)
  clear hb16 hT15
  have h16 := hT16.out.next nAc true
  rw [kn16] at h16
  rw [show fK (some (nXyz, m4)) = nXyz from rfl, show fX (some (nXyz, m4)) = m4 from rfl] at h16
  go_wp2_with fail
  refine h16.mono ?_
  clear h16
  rintro e w17 ⟨rfl, hb17⟩
  have hT17 := Lib.hid (hT16.out.below hb17)
  clear hb17 hT16
  have h17 := hT17.out.next nXyz true
  rw [kn17] at h17
  go_wp2_with fail
  refine h17.mono ?_
  clear h17
  rintro e w18 ⟨rfl, hb18⟩
  have hT18 := Lib.hid (hT17.out.below hb18)
  clear hb18 hT17
  have h18 := hT18.out.length
  rw [show kC6.length = 2 from rfl] at h18
  go_wp2_with fail
  refine h18.mono ?_
  clear h18
  rintro e wl ⟨rfl, rfl⟩
  have h18 := hT18.out.check
  go_wp2_with fail
  refine h18.mono ?_
  clear h18
  rintro e w19 ⟨rfl, hb19⟩
  have hT19 := Lib.hid (hT18.out.below hb19)
  clear hb19 hT18
  have h19 := hT19.out.drop
  go_wp2_with fail
  refine h19.mono ?_
  clear h19
  rintro e w20 ⟨rfl, hG20⟩
  replace hG20 := Lib.hid hG20
  clear hT19
  have hg := hG20.out.gone.put nQ m1
  go_wp2_with fail
  refine hg.mono ?_
  clear hg
  rintro e wg ⟨rfl, rfl⟩
  have hg := hG20.out.gone.get nAc .nilFunc
  go_wp2_with fail
  refine hg.mono ?_
  clear hg
  rintro e wg ⟨rfl, rfl⟩
  have hnn := new_nil w20
  go_wp2_with fail
  refine hnn.mono ?_
  clear hnn
  rintro e wn ⟨rfl, hbn⟩
  have hGn := hG20.out.below hbn
  have hl := hGn.live
  replace hGn := Lib.hid hGn
  clear hbn
  go_wp2_with fail
  refine hl.mono ?_
  clear hl
  rintro e wm ⟨rfl, hbm⟩
  have hbl := Lib.hid (hGn.out.bel.trans (hbm.mono hGn.out.bel.size))
  clear hbm
  have hAw := awake12_any wm
  go_wp2_with fail
  refine hAw.mono ?_
  clear hAw
  rintro e wz ⟨rfl, hbz⟩
  have hbf := Lib.hid (hbl.out.trans (hbz.mono hbl.out.size))
  clear hbz
  go_wp2_with fail
  go_ret
  exact ⟨by simp, hbf.out⟩
end Go.Proofs.Ytmhlokomlngdmaa
