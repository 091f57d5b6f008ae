import Derived.Laws.MakeOwn
import Derived.Lib.SliceRun
import Derived.Deep.RegionLaw
import Derived.Laws.Cover1
import Derived.Test.YtbdealmkmpnpoaaGreatRows
import Derived.WalkKit
import Derived.ProofKit
import Derived.OpenShut
import Derived.ShutString
import Derived.ChangeOld
import Derived.Below
import Derived.Test.YtbdealmkmpnpoaaGreatQ01
import Derived.Test.YtbdealmkmpnpoaaGreatQ02
import Derived.Test.YtbdealmkmpnpoaaGreatQ03
import Derived.Test.YtbdealmkmpnpoaaGreatQ04
import Derived.Test.YtbdealmkmpnpoaaGreatQ05
import Derived.Test.YtbdealmkmpnpoaaGreatQ06
import Derived.Test.YtbdealmkmpnpoaaGreatQ07
import Derived.Test.YtbdealmkmpnpoaaGreatQ08
import Derived.Test.YtbdealmkmpnpoaaGreatQ09
import Derived.Test.YtbdealmkmpnpoaaGreatQ10
import Derived.Test.YtbdealmkmpnpoaaGreatQ11
import Derived.Test.YtbdealmkmpnpoaaGreatQ12
import Derived.Test.YtbdealmkmpnpoaaGreatQ13
import Derived.Test.YtbdealmkmpnpoaaGreatQ14
set_option linter.all false
namespace Go.Proofs.YtbdealmkmpnpoaaGreat.M
open Go.RowKit
theorem leq_sle (a b:Str):(Op.bytesLess a.toList b.toList || a.toList == b.toList)=sle a b:=by
 rw [less_slt]
 unfold sle
 cases h1:slt a b
 ·cases h2:slt b a
  ·have:=slt_eq h1 h2
   subst this;simp
  ·have : (a.toList == b.toList) = false := by
     rw [beq_eq_false_iff_ne];intro e;rw [ByteArray.toList_eq,ByteArray.toList_eq] at e;have e2:a=b:=str_ext e;rw [e2,slt_irrefl] at h2
     cases h2
   simp [this]
 ·rw [slt_asymm h1]
  rfl
def hits (key:Str) (x:A10):Bool:=decide (x.2.1=key) && (decide (0≤x.1) && decide (x.1≤1))
def lastAt (L:List A10) (key:Str) (i:Nat):Nat→Nat
 | 0=>i
 | k+1=>if (L[k]?.map (hits key)).getD false then k else lastAt L key i k
theorem stepC_get {C:Cont Str} {x:A10} {key:Str}:M.cget (stepC C x) key=if hits key x then (if x.1=0 then some x.2.2.1 else none) else M.cget C key:=by
 unfold stepC hits
 by_cases h0:x.1=0
 ·rw [if_pos h0,cget_cput]
  by_cases hk:x.2.1=key
  ·simp [hk,h0]
  ·simp [hk]
 ·rw [if_neg h0]
  by_cases h1:x.1=1
  ·rw [if_pos h1,cget_cdel]
   by_cases hk:x.2.1=key
   ·simp [hk,h1]
   ·simp [hk]
  ·rw [if_neg h1]
   have:(decide (0≤x.1) && decide (x.1≤1))=false:=by
    by_cases h2:0≤x.1
    ·have:¬ x.1≤1:=by omega
     simp [this]
    ·simp [h2]
   simp [this]
theorem lastAt_lt {L:List A10} {key:Str} {i n:Nat} (hi:i < n):∀ m,m≤n→lastAt L key i m < n
 | 0,_=>hi
 | m+1,h=>by
  unfold lastAt;split
  ·omega
  ·exact lastAt_lt hi m (by omega)
theorem last_is {L : List A10} {key : Str} {i : Nat} {x : A10} (hx : L[i]? = some x) (hk : x.2.1 = key) : ∀ m, m ≤ L.length →
    (∃ y,L[lastAt L key i m]?=some y∧hits key y=true∧lastAt L key i m < m∧M.cget (doneC (L.take m)) key=if y.1=0 then some y.2.2.1 else none)∨(lastAt L key i m=i∧(∀ k y,k < m→L[k]?=some y→hits key y=false)∧M.cget (doneC (L.take m)) key=none)
 | 0,_=>.inr ⟨rfl,fun k y hk=>by omega,by simp [doneC,cget]⟩
 | m+1,h=>by
  have hm:L[m]?=some L[m]:=List.getElem?_eq_getElem (by omega);obtain ⟨z,hz⟩:∃ z,L[m]?=some z:=⟨_,hm⟩;rw [take_next hz,doneC_snoc,stepC_get];unfold lastAt;rw [hz];simp only [Option.map_some,Option.getD_some];by_cases hh:hits key z=true
  rotate_left
  ·have hh:hits key z=false:=by simpa using hh
   simp only [hh,Bool.false_eq_true,if_false];rcases last_is hx hk m (by omega) with ⟨y,h1,h2,h3,h4⟩ | ⟨h1,h2,h3⟩
   ·exact .inl ⟨y,h1,h2,by omega,h4⟩
   ·refine .inr ⟨h1,fun k y hk hy=>?_,h3⟩
    by_cases e:k=m
    ·subst e
     rw [hz] at hy;injection hy with hy;rw [← hy];exact hh
    ·exact h2 k y (by omega) hy
  ·simp only [hh,if_true]
   exact .inl ⟨z,hz,hh,by omega,rfl⟩
theorem last_law {L : List A10} {i : Nat} {x y : A10} (hx : L[i]? = some x) (hy : L[lastAt L x.2.1 i L.length]? = some y) :
    (M.cget (doneC L) x.2.1).isSome=decide (y.1=0)∧(y.1=0→(M.cget (doneC L) x.2.1).getD s0=y.2.2.1):=by
 have hi:=(List.getElem?_eq_some_iff.1 hx).1
 have hL:L.take L.length=L:=List.take_length
 rcases last_is hx rfl L.length (Nat.le_refl _) with ⟨z,h1,h2,h3,h4⟩ | ⟨h1,h2,h3⟩
 ·rw [h1] at hy
  injection hy with hy;subst hy;rw [hL] at h4;rw [h4];by_cases h0:z.1=0
  ·simp [h0]
  ·simp [h0]
 ·rw [hL] at h3
  rw [h1,hx] at hy;injection hy with hy;subst hy;have h4:=h2 i x hi hx
  have h5:¬ x.1=0:=by
   intro h0;unfold hits at h4;simp [h0] at h4
  rw [h3];simp [h5]
theorem cnext_at:∀ {C:Cont Str} {k:Str} {after:Bool} {n:Nat},(∀ i p,i < n→C[i]?=some p→abv k after p.1=false)→(∀ p,C[n]?=some p→abv k after p.1=true)→M.cnext C k after=C[n]?
 | [],k,after,n,_,_=>by simp [cnext]
 | p::C,k,after,0,_,h=>by
  have:=h p rfl;unfold cnext;rw [List.find?_cons,show (if after=true then slt k p.1 else sle k p.1)=true from this];rfl
 | p::C,k,after,n+1,h,h'=>by
  have h0:=h 0 p (by omega) rfl;unfold cnext;rw [List.find?_cons,show (if after=true then slt k p.1 else sle k p.1)=false from h0];exact cnext_at (C:=C) (n:=n) (fun i q hi hq=>h (i+1) q (by omega) (by simpa using hq)) (fun q hq=>h' q (by simpa using hq))
theorem cnext_first (C:Cont Str):M.cnext C s0 false=C[0]?:=cnext_at (fun i p hi=>by omega) (fun p _=>sle_s0 p.1)
theorem cnext_next {C:Cont Str} (hC:CSort C) {n:Nat} {p:Str×Str} (hp:C[n]?=some p):M.cnext C p.1 true=C[n+1]?:=by
 refine cnext_at (fun i q hi hq=>?_) (fun q hq=>?_)
 ·unfold abv
  simp only [if_true];by_cases e:i=n
  ·subst e
   rw [hp] at hq;injection hq with hq;rw [← hq,slt_irrefl]
  ·exact slt_asymm (csort_lt hC (by omega) hq hp)
 ·exact csort_lt hC (by omega) hp hq
def alk2 (x y:A10):Bool:=decide (x.1=0) && decide (y.1=0) && decide (8 < x.2.1.size) && decide (8 < y.2.1.size) && decide ((bl x.2.1).take 8=(bl y.2.1).take 8) && !decide (x.2.1=y.2.1)
def putK (L:List A10) (k:Str):Prop:=∃ x,x∈L∧x.1=0∧x.2.1=k
theorem alk2_comm (x y:A10):alk2 x y=alk2 y x:=by
 unfold alk2
 rw [show decide ((bl x.2.1).take 8=(bl y.2.1).take 8)=decide ((bl y.2.1).take 8=(bl x.2.1).take 8) from by simp only [eq_comm],show decide (x.2.1=y.2.1)=decide (y.2.1=x.2.1) from by simp only [eq_comm]]
 cases decide (x.1=0) <;> cases decide (y.1=0) <;> cases decide (8 < x.2.1.size) <;> cases decide (8 < y.2.1.size) <;> simp
theorem eight_alk {L:List A10} (h:Eight (putK L)):∃ (i k:Nat) (x y:A10),k < i∧L[i]?=some x∧L[k]?=some y∧alk2 x y=true:=by
 obtain ⟨k1,k2,⟨x,hx,hx0,rfl⟩,⟨y,hy,hy0,rfl⟩,hne,h1,h2,h3⟩:=h
 obtain ⟨i,hi⟩:=List.mem_iff_getElem?.1 hx
 obtain ⟨k,hk⟩:=List.mem_iff_getElem?.1 hy
 have ha:alk2 x y=true:=by
  have e1:8 < x.2.1.size:=by rw [bl_size] at h1;exact h1
  have e2:8 < y.2.1.size:=by rw [bl_size] at h2;exact h2
  unfold alk2;simp [hx0,hy0,e1,e2,h3,hne]
 rcases Nat.lt_trichotomy i k with h | h | h
 ·exact ⟨k,i,y,x,h,hk,hi,by rw [alk2_comm];exact ha⟩
 ·subst h
  rw [hi] at hk;injection hk with hk;exact absurd (by rw [hk]) hne
 ·exact ⟨i,k,x,y,h,hi,hk,ha⟩
theorem slice_to8 {k:Str} (h:8 < k.size) (W:World):(Instr.slice 9 (.string k) none (some (.int .i64 8)) none).run Tryz.prog W=.ok (.string (bs ((bl k).take 8))) W:=by
 rw [run_slice_string_h (t:=9) (s:=k) (ht:=Tryz.underlying9) W .i64 8 (by omega) (by omega)]
 congr 2
 apply bl_inj
 rw [bl_bs]
 show (k.extract 0 8).data.toList=_
 rw [ByteArray.data_extract,Array.toList_extract]
 show (bl k).extract 0 8=_
 rw [List.extract_eq_take_drop]
 rfl
theorem beq_dec {α:Type} [BEq α] [LawfulBEq α] [DecidableEq α] (a b:α):(a == b)=decide (a=b):=by by_cases h:a=b <;> simp [h]
theorem beq_bs (a b:Byt):((bs a).toList == (bs b).toList)=decide (a=b):=by
 rw [ByteArray.toList_eq,ByteArray.toList_eq]
 show (bl (bs a) == bl (bs b))=_
 rw [bl_bs,bl_bs]
 exact beq_dec a b
theorem beq_str (a b:Str):(a.toList == b.toList)=decide (a=b):=by
 rw [ByteArray.toList_eq,ByteArray.toList_eq,beq_dec]
 by_cases h:a=b
 ·subst h;simp
 ·rw [decide_eq_false h,decide_eq_false fun e=>h (bl_inj e)]
set_option maxRecDepth 100000 in
set_option maxHeartbeats 2000000 in
theorem alike15_any (s : Option Addr) (cap : Nat) (L : List A10) (w : World) (hr : Acts w s L) (hlen : L.length ≤ 300) (hE : Eight (putK L)) :
    Calls Tryz.prog 28 #[.slice s L.length cap] w fun e w'=>e=.returned (.bool true)∧Below w.heap.size w w':=by
 have hE:=qh (eight_alk hE)
 have hro:=qh hr
 clear hr
 obtain ⟨len,hle⟩:∃ len,len=L.length:=⟨_,rfl⟩
 rw [← hle] at hlen ⊢
 replace hle:=qh hle
 go_enter Tryz.func28,Tryz.ntmps28
 go_wp2_with fail
 go_loopg [3] len (fun gk v wr=>∃ i:Nat,gk=len - i∧i≤len∧v=.int .i64 i∧Below w.heap.size w wr∧∀ i' k' x y,i' < i→k' < i'→L[i']?=some x→L[k']?=some y→alk2 x y=false)
 case atStart=>exact ⟨0,rfl,by omega,rfl,Below.refl _ _,fun i' k' x y h=>by omega⟩
 case round =>
  obtain ⟨i,rfl,hi,rfl,hB,hno⟩:=hrel;replace hno:=qh hno;by_cases hlt:i < len
  ·obtain ⟨x,hx⟩:∃ x,L[i]?=some x:=⟨_,List.getElem?_eq_getElem (by have:=hle.out;omega)⟩
   obtain ⟨b,off,rfl,hbk,hact⟩:=hro.out i x hx
   have hcl:Hid (∀ j y,L[j]?=some y→∀ W,Below w.heap.size w W→ACell W b (off+j*4) y):=qh fun j y hy W hW=>by
    obtain ⟨b2,off2,e,_,hc⟩:=hro.out j y hy;injection e with e;injection e with e1 e2;subst e1 e2;exact hc.below hW
   replace hx:=qh hx;have hA2:(i:Int) < (len:Int):=by omega
   have hA3:(0:Int)≤(i:Int):=by omega
   have hw1:IntKind.i64.wrap ((i:Int)+1)=(i:Int)+1:=IntWalk.i64_in _ (by omega);clear hact hro;obtain ⟨wx,hwx⟩:∃ wx,wx=wr:=⟨_,rfl⟩;subst hwx;replace hB:=qh hB;go_wp2_with fail
   go_loopg [4] i (fun gk v wy=>∃ m:Nat,gk=i - m∧m≤i∧v=.int .i64 m∧Below w.heap.size w wy∧∀ k' y,k' < m→L[k']?=some y→alk2 x y=false)
   case atStart=>exact ⟨0,rfl,by omega,rfl,hB.out,fun k' y h=>by omega⟩
   case round =>
    clear hB;obtain ⟨m,rfl,hm,rfl,hB,hnm⟩:=hrel;replace hnm:=qh hnm;by_cases hmk:m < i
    ·obtain ⟨y,hy⟩:∃ y,L[m]?=some y:=⟨_,List.getElem?_eq_getElem (by have:=hle.out;omega)⟩
     obtain ⟨g0,g1,g2,g3⟩:=hcl.out m y hy wr hB;obtain ⟨j0,j1,j2,j3⟩:=hcl.out i x hx.out wr hB;have hbk2:=block_lt_of_cell g0;have hM2:(m:Int) < (i:Int):=by omega
     have hM4:(m:Int) < (len:Int):=by omega
     have hM3:(0:Int)≤(m:Int):=by omega
     have hwm:IntKind.i64.wrap ((m:Int)+1)=(m:Int)+1:=IntWalk.i64_in _ (by omega);obtain ⟨hh,hhh⟩:∃ hh,hh=alk2 x y:=⟨_,rfl⟩
     have hst:Hid (hh=false→∀ k' y,k' < m+1→L[k']?=some y→alk2 x y=false):=qh (by
      intro h k' y' hk' hy';rcases Nat.lt_or_ge k' m with h1 | h1
      ·exact hnm.out k' y' h1 hy'
      ·obtain rfl:k'=m:=by omega
       rw [hy] at hy';injection hy' with hy'
       rw [← hy',← hhh,h])
     clear hy hnm hx;obtain ⟨d1,x1,x2,aft1⟩:=x;obtain ⟨d2,y1,y2,aft2⟩:=y;simp only at g0 g1 g2 g3 j0 j1 j2 j3;replace hB:=qh hB;go_upto_region 7 with fail;go_quiet (fail);go_upto_region 8 with fail;go_cut [63] (fun v wz=>v=.bool hh∧Below wr.heap.size wr wz)
     case first =>
      unfold alk2 at hhh;simp only at hhh;by_cases e1:d1=0
      rotate_left 1
      ·have eh:hh=false:=by rw [hhh];simp [e1]
       subst eh;clear hhh hst;have e1b:(d1 == 0)=false:=by simpa using e1
       have e1d:decide (d1=0)=false:=by simpa using e1
       go_quiet (fail);go_wp2_with fail;go_meet;exact ⟨by simp,below_drewN (Below.refl _ _) _⟩
      subst e1;by_cases e2:d2=0
      rotate_left 1
      ·have eh:hh=false:=by rw [hhh];simp [e2]
       subst eh;clear hhh hst;have e2b:(d2 == 0)=false:=by simpa using e2
       have e2d:decide (d2=0)=false:=by simpa using e2
       go_quiet (fail);go_wp2_with fail;go_meet;exact ⟨by simp,below_drewN (Below.refl _ _) _⟩
      subst e2;by_cases e3:8 < x1.size
      rotate_left 1
      ·have eh:hh=false:=by rw [hhh];simp [e3]
       subst eh;clear hhh hst;have e3b:¬ (8:Int) < (x1.size:Int):=by omega
       go_quiet (fail);go_wp2_with fail;go_meet;exact ⟨by simp,below_drewN (Below.refl _ _) _⟩
      have e3':(8:Int) < (x1.size:Int):=by omega
      have hs1:=fun W=>slice_to8 e3 W
      by_cases e4:8 < y1.size
      rotate_left 1
      ·have eh:hh=false:=by rw [hhh];simp [e4]
       subst eh;clear hhh hst;have e4b:¬ (8:Int) < (y1.size:Int):=by omega
       go_quiet (fail);go_wp2_with fail;go_meet;exact ⟨by simp,below_drewN (Below.refl _ _) _⟩
      have e4':(8:Int) < (y1.size:Int):=by omega
      have hs2:=fun W=>slice_to8 e4 W
      have hbq:=beq_bs ((bl x1).take 8) ((bl y1).take 8);have hbn:=beq_str x1 y1;obtain ⟨P1,hP1⟩:∃ p,p=(bl x1).take 8:=⟨_,rfl⟩;obtain ⟨P2,hP2⟩:∃ p,p=(bl y1).take 8:=⟨_,rfl⟩;rw [← hP1] at hs1 hbq hhh;rw [← hP2] at hs2 hbq hhh;replace hP1:=qh hP1;replace hP2:=qh hP2;by_cases e5:P1=P2
      rotate_left 1
      ·have eh:hh=false:=by rw [hhh];simp [e5]
       subst eh;clear hhh hst;rw [decide_eq_false e5] at hbq;go_quiet (fail);go_wp2_with fail;go_meet;exact ⟨by simp,below_drewN (Below.refl _ _) _⟩
      rw [decide_eq_true e5] at hbq;by_cases e6:x1=y1
      ·have eh:hh=false:=by rw [hhh];simp [e6]
       subst eh;clear hhh hst;rw [decide_eq_true e6] at hbn;replace e6:=qh e6;go_quiet (fail);go_wp2_with fail;go_meet;exact ⟨by simp,below_drewN (Below.refl _ _) _⟩
      have hbn2:(x1.toList == y1.toList)=false:=by rw [hbn,decide_eq_false e6]
      have eh:hh=true:=by rw [hhh];simp [e3,e4,e5,e6]
      subst eh;clear hhh hst hbn;go_quiet (fail);go_wp2_with fail;go_meet;exact ⟨by simp,below_drewN (Below.refl _ _) _⟩
     case rest =>
      obtain ⟨rfl,hb7⟩:=hcut;have hB7:=qh (hB.out.trans (hb7.mono hB.out.size));clear hb7 g0 g1 g2 g3 j0 j1 j2 j3
      cases hh
      ·go_wp2_with fail
       go_roundg (i - (m+1))
       case rel=>exact ⟨m+1,rfl,by omega,by go_num,hB7.out,hst.out (by simp)⟩
       case measure=>omega
      ·go_wp2_with fail
       go_ret;exact ⟨rfl,hB7.out⟩
    ·obtain rfl:m=i:=by omega
     replace hB:=qh hB
     have hst:Hid (∀ i' k' x y,i' < m+1→k' < i'→L[i']?=some x→L[k']?=some y→alk2 x y=false):=qh (by
      intro i' k' x' y' h1 h2 h3 h4;rcases Nat.lt_or_ge i' m with h5 | h5
      ·exact hno.out i' k' x' y' h5 h2 h3 h4
      ·obtain rfl:i'=m:=by omega
       rw [hx.out] at h3;injection h3 with h3;rw [← h3]
       exact hnm.out k' y' h2 h4)
     clear hnm hno hcl;go_wp2_with fail;go_roundg (len - (m+1))
     case rel=>exact ⟨m+1,rfl,by omega,by go_num,hB.out,hst.out⟩
     case measure=>omega
  ·exfalso
   obtain ⟨i',k',x,y,h1,h2,h3,h4⟩:=hE.out;have:=(List.getElem?_eq_some_iff.1 h2).1;rw [hno.out i' k' x y (by have:=hle.out;omega) h1 h2 h3] at h4
   cases h4
open Go.RowKit
set_option maxRecDepth 100000 in
set_option maxHeartbeats 4000000 in
theorem mtKeepsLaw_walk (s : Option Addr) (len cap : Nat) (rows : List (List Value)) (w : World) (hr : IsFlat [.inl .i64, .inr false, .inr false, .inr true] w s len rows) :
    Calls Tryz.prog 4 #[.slice s len cap] w fun e w'=>e=.returned (.bool true)∧Below w.heap.size w w':=by
 have hlen:len≤maxLen:=by
  rcases hr with ⟨h0,_⟩ | ⟨_,_,_,h1,_⟩
  ·rw [h0];exact Nat.zero_le _
  ·exact h1
 obtain ⟨L,rfl,hL,hsz⟩:=acts_of_flat hr
 clear hr
 have hAw:=qh (awake15_any w)
 have hGr:=qh fun W (hW:Below w.heap.size w W)=>great15_any s cap L W (hL.below hW) hsz hlen
 have hro:=qh hL
 unfold maxLen at hlen
 clear hL hsz
 go_enter Tryz.func4,Tryz.ntmps4
 go_wp2_with fail
 refine hAw.out.mono ?_
 clear hAw
 rintro e w1 ⟨rfl,hb1⟩
 go_wp2_with fail
 refine (hGr.out w1 hb1).mono ?_
 clear hGr
 rintro e w2 ⟨rfl | ⟨rfl,h300,hkb⟩,hb2⟩
 ·replace hb2:=qh (hb1.trans (hb2.mono hb1.size))
  go_wp2_with fail;go_ret;exact ⟨rfl,hb2.out⟩
 have hb12:=qh (hb1.trans (hb2.mono hb1.size))
 clear hb1 hb2 hlen
 replace hkb:=qh hkb
 go_wp2_with fail
 refine (show Calls Tryz.prog 11 #[.int .i64 4096] w2 _ from arNewPool_some 4096 w2 (by omega) (by omega)).mono ?_
 rintro e w3 ⟨p,g,f,rfl,hB3,hp3,hg3,hf3,hP3⟩
 have hNw:=qh (MI.new (w0:=w2) hB3 hP3 ⟨hp3,hg3,hf3⟩ (by omega) (putK L))
 clear hP3 hB3 hp3 hg3 hf3
 go_wp2_with fail
 refine hNw.out.mono ?_
 clear hNw
 rintro e w4 ⟨t,rfl,hT⟩
 replace hT:=qh hT
 obtain ⟨len,hle⟩:∃ len,len=L.length:=⟨_,rfl⟩
 rw [← hle] at h300 ⊢
 replace hle:=qh hle
 go_wp2_with fail
 go_loopg [7] len (fun gk v wr=>∃ (k:Nat),gk=len - k∧k≤len∧v=.int .i64 k∧MI w2 wr p t (doneC (L.take k)) 4096 k (kb (L.take k)) (putK L)∧(doneC (L.take k)).length≤k)
 case atStart=>exact ⟨0,rfl,by omega,rfl,hT.out,by simp [doneC]⟩
 case round =>
  clear hT;obtain ⟨k,rfl,hk,rfl,hT,hCl⟩:=hrel;by_cases hlt:k < len
  ·obtain ⟨x,hx⟩:∃ x,L[k]?=some x:=⟨_,List.getElem?_eq_getElem (by have:=hle.out;omega)⟩
   obtain ⟨b,off,rfl,hbw,hact⟩:=hro.out k x hx;have hsn:Hid (doneC (L.take (k+1))=stepC (doneC (L.take k)) x):=qh (by rw [take_next hx,doneC_snoc]);have hl1:=qh (hT.cput_le x.2.1 x.2.2.1);have hl2:=qh (hT.cdel_le x.2.1);have hkt:=kb_take L k hx;have hka:=kb_le_all L (k+1);have hkm:=kb_mem (List.mem_of_getElem? hx);have hk4:=hkb.out;have hPu:=qh fun W (hW:Below wr.heap.size wr W)=>fun h0=>(hT.below hW).put (key:=x.2.1) (v:=x.2.2.1) (by omega) (by omega) (by omega) (by omega) (by omega) ⟨x,List.mem_of_getElem? hx,h0,rfl⟩
   have hDe:=qh fun W (hW:Below wr.heap.size wr W)=>(hT.below hW).delete (key:=x.2.1) (by omega) (by omega) (by omega) (by omega)
   have hT':=qh hT;replace hkt:=qh hkt;clear hka hkm hk4;obtain ⟨g0,g1,g2,g3⟩:=hact.below (hb12.out.trans (hT.bel.mono hb12.out.size));have hbw2:=block_lt_of_cell g0;obtain ⟨C,hC⟩:∃ C,C=doneC (L.take k):=⟨_,rfl⟩;rw [← hC] at hCl hsn hl1 hl2 hPu hDe hT';clear hT hC hact;obtain ⟨dd,x1,x2,aft⟩:=x;simp only at g0 g1 g2 g3 hl1 hl2 hPu hDe;have hA2:(k:Int) < (len:Int):=by omega
   have hA3:(0:Int)≤(k:Int):=by omega
   have hw1:IntKind.i64.wrap ((k:Int)+1)=(k:Int)+1:=IntWalk.i64_in _ (by omega);replace hx:=qh hx;by_cases h0:dd=0
   ·subst h0
    go_upto_region 14 with fail
    go_region_with (go_at_call 22;refine (hPu.out _ (Below.refl _ _).drew rfl).mono ?_;rintro z w5 ⟨rfl,hT5⟩;replace hT5:=qh hT5)
    all_goals
     go_wp2_with fail;go_roundg (len - (k+1))
     case rel =>
      refine ⟨k+1,rfl,by omega,by go_num,?_,?_⟩
      ·rw [hsn.out];exact hT5.out.up (Nat.le_refl _) (Nat.le_of_eq hkt.out.symm)
      ·rw [hsn.out]
       have:=hl1.out
       show (cput C x1 x2).length≤k+1
       omega
     case measure=>omega
   ·have h0b:(dd == 0)=false:=by simpa using h0
    by_cases h1:dd=1
    ·subst h1
     replace h0:=qh h0;go_wp2_with fail;refine (hDe.out _ (Below.refl _ _)).mono ?_;rintro z w5 ⟨rfl,hT5⟩;replace hT5:=qh hT5;go_wp2_with fail;go_roundg (len - (k+1))
     case rel =>
      refine ⟨k+1,rfl,by omega,by go_num,?_,?_⟩
      ·rw [hsn.out];exact hT5.out.up (by omega) (by rw [hkt.out];exact Nat.le_add_right _ _)
      ·rw [hsn.out]
       have:=hl2.out
       show (cdel C x1).length≤k+1
       omega
     case measure=>omega
    ·have h1b:(dd == 1)=false:=by simpa using h1
     have hst:Hid (stepC C (dd,x1,x2,aft)=C):=qh (by unfold stepC;rw [if_neg h0,if_neg h1]);replace h0:=qh h0;replace h1:=qh h1;go_wp2_with fail;go_roundg (len - (k+1))
     case rel =>
      refine ⟨k+1,rfl,by omega,by go_num,?_,?_⟩
      ·rw [hsn.out,hst.out];exact hT'.out.up (by omega) (by rw [hkt.out];exact Nat.le_add_right _ _)
      ·rw [hsn.out,hst.out];omega
     case measure=>omega
  ·obtain rfl:k=len:=by omega
   have hLt:L.take k=L:=List.take_of_length_le (by have:=hle.out;omega);rw [hLt] at hT hCl;replace hT:=qh (hT.up (k':=300) (pt':=40000) (by omega) hkb.out);clear hk hLt;obtain ⟨wa,hwa⟩:∃ wa,wa=wr:=⟨_,rfl⟩;subst hwa;have hbw:=qh (hb12.out.trans (hT.out.bel.mono hb12.out.size));have hGet:=qh fun W (hW:Below wa.heap.size wa W) (key:Str) (hks:key.size≤100000000)=>(hT.out.below hW).get (key:=key) (by omega) (by omega) hks
   go_wp2_with fail
   go_loopg [11] k (fun gk v wx=>∃ i:Nat,gk=k - i∧i≤k∧v=.int .i64 i∧Below wa.heap.size wa wx)
   case atStart=>exact ⟨0,rfl,by omega,rfl,Below.refl _ _⟩
   case round =>
    obtain ⟨i,rfl,hi,rfl,hB⟩:=hrel;by_cases hlt:i < k
    ·obtain ⟨x,hx⟩:∃ x,L[i]?=some x:=⟨_,List.getElem?_eq_getElem (by have:=hle.out;omega)⟩
     obtain ⟨b,off,rfl,hbk,hact⟩:=hro.out i x hx
     have hcl:Hid (∀ j y,L[j]?=some y→∀ W,Below wa.heap.size wa W→ACell W b (off+j*4) y):=qh fun j y hy W hW=>by
      obtain ⟨b2,off2,e,_,hc⟩:=hro.out j y hy;injection e with e;injection e with e1 e2;subst e1 e2;exact hc.below (hbw.out.trans (hW.mono hbw.out.size))
     have hA2:(i:Int) < (k:Int):=by omega
     have hA3:(0:Int)≤(i:Int):=by omega
     have hw1:IntKind.i64.wrap ((i:Int)+1)=(i:Int)+1:=IntWalk.i64_in _ (by omega);have hxk:=qh (show x.2.1.size≤100000000 by have:=kb_mem (List.mem_of_getElem? hx);have:=hkb.out;omega);have hlaw:=qh fun y hy=>last_law (i:=i) (x:=x) (y:=y) hx hy
     have hll:=qh (lastAt_lt (L:=L) (key:=x.2.1) (i:=i) (n:=k) hlt);have hc0:=hcl.out i x hx;clear hx hact hro;obtain ⟨dd,x1,x2,aft⟩:=x;simp only at hlaw hll hc0;replace hc0:=qh hc0;obtain ⟨wx,hwx⟩:∃ wx,wx=wr:=⟨_,rfl⟩;subst hwx;replace hB:=qh hB;go_wp2_with fail
     go_loopg [12,13] k (fun gk lv mv wy=>∃ m:Nat,gk=k - m∧m≤k∧lv=.int .i64 (lastAt L x1 i m:Nat)∧mv=.int .i64 m∧Below wa.heap.size wa wy)
     case atStart=>exact ⟨0,rfl,by omega,rfl,rfl,hB.out⟩
     case round =>
      clear hB;obtain ⟨m,rfl,hm,rfl,rfl,hB⟩:=hrel;by_cases hmk:m < k
      ·obtain ⟨y,hy⟩:∃ y,L[m]?=some y:=⟨_,List.getElem?_eq_getElem (by have:=hle.out;omega)⟩
       obtain ⟨g0,g1,g2,g3⟩:=hcl.out m y hy wr hB;obtain ⟨j0,j1,j2,j3⟩:=hc0.out wr hB;have hbk2:=block_lt_of_cell g0;have hM2:(m:Int) < (k:Int):=by omega
       have hM3:(0:Int)≤(m:Int):=by omega
       have hwm:IntKind.i64.wrap ((m:Int)+1)=(m:Int)+1:=IntWalk.i64_in _ (by omega);obtain ⟨hh,hhh⟩:∃ hh,hh=hits x1 y:=⟨_,rfl⟩
       have hst:Hid (lastAt L x1 i (m+1)=if hh then m else lastAt L x1 i m):=qh (by
        show (if (L[m]?.map (hits x1)).getD false then m else lastAt L x1 i m)=_
        rw [hy,hhh]
        rfl)
       clear hy;obtain ⟨d2,y1,y2,aft2⟩:=y;simp only at g0 g1 g2 g3;replace hB:=qh hB;go_upto_region 26 with fail;go_cut [122] (fun v wz=>v=.bool hh∧Below wr.heap.size wr wz)
       case first =>
        unfold hits at hhh;simp only at hhh;by_cases e1:y1=x1
        ·subst e1
         by_cases e2:0≤d2
         ·by_cases e3:d2≤1
          ·have eh:hh=true:=by rw [hhh];simp [e2,e3]
           subst eh;clear hhh;go_quiet (fail);go_wp2_with fail;go_meet;exact ⟨by simp,below_drewN (Below.refl _ _) _⟩
          ·have eh:hh=false:=by rw [hhh];simp [e3]
           subst eh;clear hhh;go_quiet (fail);go_wp2_with fail;go_meet;exact ⟨by simp,below_drewN (Below.refl _ _) _⟩
         ·have eh:hh=false:=by rw [hhh];simp [e2]
          subst eh;clear hhh;go_quiet (fail);go_wp2_with fail;go_meet;exact ⟨by simp,below_drewN (Below.refl _ _) _⟩
        ·have eh:hh=false:=by rw [hhh];simp [e1]
         subst eh
         have en:(y1.toList == x1.toList)=false:=by
          rw [beq_eq_false_iff_ne];intro e;rw [ByteArray.toList_eq,ByteArray.toList_eq] at e;exact e1 (str_ext e)
         clear hhh e1;go_quiet (fail);go_wp2_with fail;go_meet;exact ⟨by simp,below_drewN (Below.refl _ _) _⟩
       case rest =>
        obtain ⟨rfl,hb7⟩:=hcut;have hB7:=qh (hB.out.trans (hb7.mono hB.out.size));clear hb7 hhh g0 g1 g2 g3 j0 j1 j2 j3
        cases hh
        all_goals
         go_wp2_with fail;go_roundg (k - (m+1))
         case rel=>exact ⟨m+1,rfl,by omega,by rw [hst.out];rfl,by go_num,hB7.out⟩
         case measure=>omega
      ·obtain rfl:k=m:=by omega
       obtain ⟨q,hq⟩:∃ q,q=lastAt L x1 i k:=⟨_,rfl⟩;have hqk:=hll.out k (Nat.le_refl _);rw [← hq] at hqk ⊢;obtain ⟨y,hy⟩:∃ y,L[q]?=some y:=⟨_,List.getElem?_eq_getElem (by have:=hle.out;omega)⟩;obtain ⟨hy1,hy2⟩:=hlaw.out y (by rw [← hle.out,← hq];exact hy);obtain ⟨g0,g1,g2,g3⟩:=hcl.out q y hy wr hB;obtain ⟨j0,j1,j2,j3⟩:=hc0.out wr hB;have hgt:=hGet.out wr hB x1 hxk.out;rw [hy1] at hgt;have hQ2:(q:Int) < (k:Int):=by omega
       have hQ3:(0:Int)≤(q:Int):=by omega
       have hbk2:=block_lt_of_cell g0;obtain ⟨gv,hgv⟩:∃ gv,gv=(M.cget (doneC L) x1).getD s0:=⟨_,rfl⟩;rw [← hgv] at hgt hy2;replace hgt:=qh hgt;obtain ⟨d2,y1,y2,aft2⟩:=y;simp only at g0 g1 g2 g3 hgt hy2;have hcy:=qh fun W hW=>hcl.out q _ hy W hW
       clear hgv hq hy hlaw hll hcl hy1;go_wp2_with fail;refine hgt.out.mono ?_;clear hgt;rintro e w5 ⟨rfl,hb5⟩;have hB5:=hB.trans (hb5.mono hB.size);clear g0 g1 g2 g3 j0 j1 j2 j3 hb5 hbk2;obtain ⟨g0,g1,g2,g3⟩:=hcy.out w5 hB5;have hbk2:=block_lt_of_cell g0;replace hB5:=qh hB5;by_cases h0:d2=0
       ·subst h0
        have hy3:=hy2 rfl;subst hy3;clear hy2;go_wp2_with fail;go_roundg (k - (i+1))
        case rel=>exact ⟨i+1,rfl,by omega,by go_num,hB5.out⟩
        case measure=>omega
       ·have h0b:(d2 == 0)=false:=by simpa using h0
        have h0d:decide (d2=0)=false:=by simpa using h0
        clear hy2;go_wp2_with fail;go_roundg (k - (i+1))
        case rel=>exact ⟨i+1,rfl,by omega,by go_num,hB5.out⟩
        case measure=>omega
    ·obtain rfl:k=i:=by omega
     replace hB:=qh hB;clear hlt hi hGet;go_wp2_with fail;obtain ⟨wx,hwx⟩:∃ wx,wx=wr:=⟨_,rfl⟩;subst hwx;have hTx:=qh (hT.out.below hB.out);have hbx:=qh (hbw.out.trans (hB.out.mono hbw.out.size));clear hT hB hbw;obtain ⟨C,hC⟩:∃ C,C=doneC L:=⟨_,rfl⟩
     have hsz:Hid (∀ q,q∈doneC L→q.1.size≤100000000):=qh fun q hq=>by
      have h1:=ksum_done L [];have h2:ksum []=0:=rfl;have h3:=ksum_mem hq;have h4:=hkb.out;unfold doneC at h3;omega
     rw [← hC] at hTx hCl hsz;have hal:=qh fun W (hW:Below wx.heap.size wx W) (hE:Eight (putK L))=>alike15_any s cap L W (hro.out.below (hbx.out.trans (hW.mono hbx.out.size))) (by have:=hle.out;omega) hE
     rw [← hle.out] at hal;clear hC hro;obtain ⟨cl,hcl⟩:∃ cl,cl=C.length:=⟨_,rfl⟩;rw [← hcl] at hCl;replace hcl:=qh hcl;have hsrt:=qh hTx.out.sorted
     go_loopg [18,19,20] (cl+1) (fun gk nv kv av wq=>∃ (n:Nat) (K:Str) (aft:Bool),gk=cl+1 - n∧n≤cl∧nv=.int .i64 n∧kv=.string K∧av=.bool aft∧M.cnext C K aft=C[n]?∧(aft=true→∀ q,C[n]?=some q→slt K q.1=true)∧K.size≤100000000∧Below wx.heap.size wx wq)
     case atStart=>exact ⟨0,s0,false,rfl,by omega,rfl,rfl,rfl,cnext_first C,fun h=>(by cases h),by show (0:Nat)≤_;omega,Below.refl _ _⟩
     case round =>
      obtain ⟨n,K,aft,rfl,hn,rfl,rfl,rfl,hnx,hab,hKz,hB⟩:=hrel;have hTr:=hTx.out.below hB;have hKs:K.size≤100000000:=hKz;have hct:=hTr.next (key:=K) (by omega) (by omega) hKs aft
      have hLn:Hid (∀ W,Below wr.heap.size wr W→Calls Tryz.prog 24 #[.pointer (some ⟨t,0,none⟩)] W fun e w'=>e=.returned (.int .i64 cl)∧w'=W):=qh fun W hW=>by
       rw [hcl.out];exact (hTr.below hW).len.mono fun _ _ ⟨a,b⟩=>⟨a,b.symm⟩
      have hGt:=qh fun W (hW:Below wr.heap.size wr W) (key:Str) (hks:key.size≤100000000)=>(hTr.below hW).get (key:=key) (by omega) (by omega) hks
      rw [hnx] at hct;replace hB:=qh hB;have hw1:IntKind.i64.wrap ((n:Int)+1)=(n:Int)+1:=IntWalk.i64_in _ (by omega);clear hTr hnx;by_cases hlt:n < cl
      ·obtain ⟨q,hq⟩:∃ q,C[n]?=some q:=⟨_,List.getElem?_eq_getElem (by have:=hcl.out;omega)⟩
       have hgq:=cget_at hsrt.out hq;have hqz:=qh (hsz.out q (List.mem_of_getElem? hq));have hnn:=qh (cnext_next hsrt.out hq);have hnl:=qh fun q2 (h:C[n+1]?=some q2)=>csort_lt hsrt.out (show n < n+1 by omega) hq h
       rw [hq] at hct hab;have hab2:=qh fun h=>hab h q rfl
       obtain ⟨q1,q2⟩:=q;simp only at hgq hnn hnl hab2 hqz;have hgt:=qh fun W (hW:Below wr.heap.size wr W)=>hGt.out W hW q1 hqz.out
       rw [hgq] at hgt;simp only [Option.getD_some,Option.isSome_some] at hgt;rw [show fK (some (q1,q2))=q1 from rfl,show fX (some (q1,q2))=q2 from rfl,Option.isSome_some] at hct;replace hct:=qh hct;clear hab hGt hgq hq
       have hle2:Hid (aft=true→(Op.bytesLess q1.toList K.toList || q1.toList == K.toList)=false):=qh fun h=>by
        rw [leq_sle];unfold sle;rw [hab2.out h];rfl
       go_wp2_with fail;refine hct.out.mono ?_;clear hct;rintro e w5 ⟨rfl,hb5⟩;have hgt7:=qh (hgt.out _ hb5);have hB7:=qh (hB.out.trans (hb5.mono hB.out.size));clear hb5 hgt hLn;go_wp2_with fail;refine hgt7.out.mono ?_;clear hgt7;rintro e w8 ⟨rfl,hb8⟩;have hB8:=qh (hB7.out.trans (hb8.mono hB7.out.size));clear hb8;have hk2:¬ ((k:Int) < (n:Int)):=by omega
       cases aft with
       | false =>
        go_wp2_with fail;go_roundg (cl - n)
        case rel=>exact ⟨n+1,q1,true,by omega,by omega,by go_num,rfl,rfl,hnn.out,fun _ q h=>hnl.out q h,hqz.out,hB8.out⟩
        case measure=>omega
       | true =>
        have hle3:=hle2.out rfl;go_wp2_with fail;go_roundg (cl - n)
        case rel=>exact ⟨n+1,q1,true,by omega,by omega,by go_num,rfl,rfl,hnn.out,fun _ q h=>hnl.out q h,hqz.out,hB8.out⟩
        case measure=>omega
      ·obtain rfl:n=cl:=by omega
       have hq:C[n]?=none:=List.getElem?_eq_none (by have:=hcl.out;omega);rw [hq] at hct;rw [show fK none=s0 from rfl,show fX none=s0 from rfl,Option.isSome_none] at hct;replace hct:=qh hct;clear hab hGt hq hsrt hlt;go_wp2_with fail;refine hct.out.mono ?_;clear hct;rintro e w5 ⟨rfl,hb5⟩;have hB5:=hB.out.trans (hb5.mono hB.out.size);obtain ⟨nn,hnb,hsl,hlv⟩:=hTx.out.slots;obtain ⟨ly,hly1,hly2,hly3,hly4⟩:=hTx.out.layers (by omega);have hCh:=qh fun W (hW:Below wx.heap.size wx W)=>(hTx.out.below hW).check (by omega) (by omega) (by have:=hcl.out;omega)
       have hL7:=qh (hLn.out _ hb5);have hC7:=qh (hCh.out _ hB5);have hAl:=qh fun W (hW:Below wx.heap.size wx W) (hE:Eight (putK L))=>hal.out W hW hE
       replace hsl:=qh hsl;replace hlv:=qh hlv;replace hly4:=qh hly4;replace hB5:=qh hB5;clear hb5 hLn hCh;go_wp2_with fail;refine hL7.out.mono ?_;clear hL7;rintro e w8 ⟨rfl,rfl⟩;go_wp2_with fail;refine hC7.out.mono ?_;clear hC7;rintro e w9 ⟨rfl,hb9⟩;have hB9:=qh (hB5.out.trans (hb9.mono hB5.out.size));have hs9:=qh (hsl.out _ hB9.out);clear hb9 hB5;go_wp2_with fail;refine hs9.out.mono ?_;clear hs9;rintro e w10 ⟨rfl,hb10⟩;have hB10:=qh (hB9.out.trans (hb10.mono hB9.out.size));have hs10:=qh (hlv.out _ hB10.out);clear hb10 hB9;go_wp2_with fail;refine hs10.out.mono ?_;clear hs10;rintro e w11 ⟨rfl,hb11⟩;have hB11:=qh (hB10.out.trans (hb11.mono hB10.out.size));have hs11:=qh (hly4.out _ hB11.out);clear hb11 hB10;have hly1':(1:Int)≤(ly:Int):=by omega
       go_wp2_with fail;refine hs11.out.mono ?_;clear hs11;rintro e w12 ⟨rfl,rfl⟩;go_wp2_with fail;refine (hly4.out _ hB11.out).mono ?_;rintro e w12 ⟨rfl,rfl⟩;rcases Nat.lt_or_ge ly 2 with h1 | h1
       ·obtain rfl:ly=1:=by omega
        go_wp2_with fail;go_ret;exact ⟨by simp,hbx.out.trans (hB11.out.mono hbx.out.size)⟩
       ·have hE:=hly3.resolve_left (by omega)
        have hA:=qh (hAl.out _ hB11.out hE);have hne:((ly:Int) == 1)=false:=by rw [beq_eq_false_iff_ne];omega
        have hne2:decide ((ly:Int)=1)=false:=by rw [decide_eq_false_iff_not];omega
        go_wp2_with fail;refine hA.out.mono ?_;rintro e w13 ⟨rfl,hb13⟩;have hB13:=qh (hB11.out.trans (hb13.mono hB11.out.size));go_wp2_with fail;go_ret;exact ⟨by simp,hbx.out.trans (hB13.out.mono hbx.out.size)⟩
end Go.Proofs.YtbdealmkmpnpoaaGreat.M
namespace Go.Proofs.YtbdealmkmpnpoaaGreat.masstreeKeeps
open Go.ChangeShapes Go.WideShapes Go.ChangeAt Go.RowKit
open Go.ChangeMaps (open_string shut_string)
set_option linter.unusedVariables false
theorem own:ownKnob Tryz.prog.godebug=none:=by kernel_rfl
theorem laidOut:laidOutB Tryz.prog=true:=by kernel_rfl
set_option maxRecDepth 100000 in
theorem lifted (os : Os) (started : os.Started) (H : Type) (enc : TypeId × Value → H) :
    ReturnsInHanded {} Tryz.checked os 4 .any (Rows.masstreeKeepsSpec.pre6 enc Tryz.prog Tryz.f4 Rows.masstreeKeepsRow.domain false) (Rows.masstreeKeepsSpec.post enc Tryz.prog Tryz.f4 false true false false):=by
 refine returnsInHanded_of_change (C:=Tryz.checked) own started (by kernel_rfl) Tryz.func4
  (ChangeSpec.witness6 (enc:=enc) (C:=Tryz.checked) false ⟨#[],#[.slice none 0 0],[]⟩ 8 (by kernel_rfl) (by kernel_rfl) (by kernel_rfl) (by kernel_rfl)) ?_
 intro W base args ds gs before hval0 hW hcnd _
 have hval:∀ (j:Nat) t v,Tryz.f4.params[j]?=some t→args[j]?=some v→Value.okWide Tryz.prog W .any base t v:=hval0
 have hW':=hW
 obtain ⟨p,q,hA0,hV,rfl,hfz,hnd⟩:=hW
 have hA:DataW.TrodAll enc Tryz.prog W 0 (fun _=>true) true Tryz.f4.params.toList args.toList ds p:=hA0
 rw [Tryz.params4] at hA hval
 obtain ⟨v0,vs0,d0,ds0,p0,q0,hargs,rfl,rfl,h0,r0⟩:=trodAll_cons hA
 obtain ⟨rfl,rfl,rfl⟩:=trodAll_nil r0
 obtain rfl:args=#[v0]:=by cases args;simp_all
 obtain ⟨rfl,rfl⟩:=trodVars_none hV
 obtain ⟨a0,len0,cap0,rfl⟩:=okWide_slice Tryz.underlying48 (hval 0 48 v0 rfl rfl)
 have k0:=h0
 have lt0:∀ x∈p0,x.block < W.heap.size:=by obtain ⟨m,hm⟩:=k0;exact DataW.trod_lt m _ _ _ hm
 obtain ⟨z0,w0⟩:∃ zs,IsFlat [.inl .i64,.inr false,.inr false,.inr true] W a0 len0 zs:=by
  obtain ⟨fuel,hf⟩:=h0;exact isFlat_of (n:=9) Tryz.underlying48 (by kernel_rfl) (by kernel_rfl) (by decide) hf
 clear hA0 hval0
 refine (M.mtKeepsLaw_walk a0 len0 cap0 z0 W w0).mono fun e W' ⟨he,bel⟩=>?_
 subst he
 exact ⟨_,rfl,_,_,_,[],_,[],hW',trodAll_mk1 (shut_bool Tryz.underlying4 _),(trodAll_cons_mk (Below.trod laidOut (by kernel_rfl) (of_decide_eq_true (by kernel_rfl)) k0 bel lt0) trodAll_mk0),rfl,bel.frame _,fun h=>by cases h⟩
theorem over:Rows.masstreeKeepsRow.holds Tryz.pinned (OpenSpec.ofChange Rows.masstreeKeepsSpec) :=
 OpenClaim.holds_of_wide 4 Tryz.f4 rfl rfl rfl rfl rfl rfl rfl ⟨rfl,rfl,rfl,rfl,rfl⟩ rfl rfl rfl rfl rfl (by kernel_rfl) Tryz.func4 (by kernel_rfl)
  (of_decide_eq_true (by kernel_rfl)) (by unfold Func.isWrapper;first | (rw [if_pos (by decide +kernel)];kernel_rfl) | (rw [if_neg (by decide +kernel)];exact ⟨rfl,rfl⟩))
  (fun os started H enc _=>lifted os started H enc)
theorem proved:Rows.MasstreeKeepsSaid:=over
#print axioms proved
end Go.Proofs.YtbdealmkmpnpoaaGreat.masstreeKeeps
