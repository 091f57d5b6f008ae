import Derived.Laws.MakeOwn
import Derived.Laws.IdiomStrings
import Derived.Lib.SliceRun
import Derived.Deep.RegionLaw
import Derived.Below
import Derived.Deep.Slices
import Derived.ProofKit
import Derived.Test.YtbdealmkmpnpoaaGreatQ01
import Derived.Test.YtbdealmkmpnpoaaGreatQ02
import Derived.Test.YtbdealmkmpnpoaaGreatQ03
import Derived.Test.YtbdealmkmpnpoaaGreatQ04
import Derived.Test.YtbdealmkmpnpoaaGreatQ05
import Derived.Test.YtbdealmkmpnpoaaGreatQ06
import Derived.Test.YtbdealmkmpnpoaaGreatQ07
import Derived.Test.YtbdealmkmpnpoaaGreatQ08
import Derived.Test.YtbdealmkmpnpoaaGreatQ09
import Derived.Test.YtbdealmkmpnpoaaGreatQ10
import Derived.Test.YtbdealmkmpnpoaaGreatQ11
import Derived.Test.YtbdealmkmpnpoaaGreatQ12
import Derived.Test.YtbdealmkmpnpoaaGreatQ13
set_option linter.all false
namespace Go.Proofs.YtbdealmkmpnpoaaGreat.M
open Go.Lib
def awK (k:Nat):Str:=⟨#[97,97,97,97,97,97,97,97,UInt8.ofNat (97+k)]⟩
def awV:Str:=⟨#[118]⟩
def awC:Nat→Cont Str
 | 0=>[]
 | k+1=>cput (awC k) (awK k) awV
def awP:Byt:=[97,97,97,97,97,97,97,97]
theorem awC_len:∀ k,k≤8→(awC k).length=k:=by decide
theorem awC_none:∀ k,k < 8→M.cget (awC k) (awK k)=none:=by decide
theorem awC_some:∀ k,k < 8→M.cget (awC 8) (awK k)=some awV:=by decide
theorem awK_bl (k:Nat):bl (awK k)=awP++[UInt8.ofNat (97+k)]:=rfl
theorem awK_take (k:Nat):(bl (awK k)).take 8=awP:=rfl
theorem awK_inj:∀ i,i < 8→∀ j,j < 8→awK i=awK j→i=j:=by decide
def awH (k:Nat) (x:Str):Prop:=∃ i,i < k∧x=awK i
theorem awC_mem:∀ {k:Nat} {p:Str×Str},p∈awC k→awH k p.1
 | 0,p,h=>by cases h
 | k+1,p,h=>by
  unfold awC cput at h;simp only [List.mem_append,List.mem_cons,List.mem_filter] at h
  have old:p∈awC k→awH (k+1) p.1:=fun h=>by
   obtain ⟨i,h1,h2⟩:=awC_mem h;exact ⟨i,by omega,h2⟩
  rcases h with ⟨h,_⟩ | rfl | ⟨h,_⟩
  ·exact old h
  ·exact ⟨k,by omega,rfl⟩
  ·exact old h
def AwY (k:Nat) (Y:List Ly):Prop:=(∀ l,l∈Y→Fat l.Ls)∧Pres (Y.map (·.pre)) (awH k)
def nds (Y:List Ly):Nat:=(Y.map fun l=>nodes l.Ls).sum
theorem nds_cons (l:Ly) (Y:List Ly):nds (l::Y)=nodes l.Ls+nds Y:=by
 unfold nds
 rw [List.map_cons,List.sum_cons]
section
variable {Y:List Ly} {k lv pt:Nat}
theorem AwY.pre (h:AwY k Y) {l:Ly} (hl:l∈Y):l.pre=[]∨l.pre=awP:=by
 rcases h.2 l.pre (List.mem_map.2 ⟨l,hl,rfl⟩) with h0 | ⟨k1,_,n,⟨i,_,rfl⟩,_,_,h1,h2,_,h3,_⟩
 ·exact .inl h0
 ·right
  rw [awK_bl] at h3;have h4:(awP++[UInt8.ofNat (97+i)]).length=9:=rfl;obtain rfl:n=1:=by omega
  rw [h2];exact awK_take i
theorem AwY.con (h:AwY k Y) (hw:WY Y lv pt) (hc:MCt Y (awC k)) {l:Ly} (hl:l∈Y):(content l.Ls).length≤k∧(l.pre=[]→(content l.Ls).length≤1):=by
 obtain ⟨j,hj⟩:=hw.ok.eights _ l hl (Nat.le_refl _)
 have hnd:=csort_nodup (hw.ok.srt hl)
 have hm:∀ x,x∈(content l.Ls).map (·.1)→∃ i,i < k∧x=mT (mkAt (awK i) j):=fun x hx=>by
  obtain ⟨y,hy,rfl⟩:=List.mem_map.1 hx;obtain ⟨q,j',⟨i,hi,rfl⟩,h2,_,h3,_⟩:=content_marks hw.ok hc h.2 (fun p hp=>awC_mem hp) hl hy;obtain rfl:j'=j:=by omega
  exact ⟨i,hi,h3⟩
 refine ⟨?_,fun h0=>?_⟩
 ·have := sub_len (b := (List.range k).map fun i => mT (mkAt (awK i) j)) hnd fun x hx => by
    obtain ⟨i,hi,e⟩:=hm x hx;exact List.mem_map.2 ⟨i,List.mem_range.2 hi,e.symm⟩
  simpa using this
 ·have hj0:j=0:=by rw [h0] at hj;simp at hj;omega
  subst hj0
  have:=sub_len (b:=[mT (mkAt (awK 0) 0)]) hnd fun x hx=>by
   obtain ⟨i,hi,e⟩:=hm x hx;rw [e,List.mem_singleton];exact congrArg mT (mk_alike ⟨by show 8 < (bl (awK i)).length;rw [awK_bl];exact Nat.le_refl 9,by decide,rfl⟩)
  simpa using this
theorem AwY.form (h:AwY k Y) (hw:WY Y lv pt) (hc:MCt Y (awC k)):∃ l F',Y=l::F'∧l.pre=[]∧nodes l.Ls=1∧l.Ls.length=1∧(F'=[]∨∃ l2,F'=[l2]∧l2.pre=awP∧(content l2.Ls).length≤k):=by
 obtain ⟨l,F',rfl,hp⟩:=hw.ok.root
 obtain ⟨h1,h2⟩:=(hw.ok.tow l (by simp)).one (hw.wb.thk l (by simp)) (h.1 l (by simp)) (by have:=(h.con hw hc (l:=l) (by simp)).2 hp;omega)
 refine ⟨l,F',rfl,hp,h1,h2,?_⟩
 have hnd:=hw.ok.pre
 rw [List.map_cons,List.nodup_cons] at hnd
 match F',hnd with
 | [],_=>exact .inl rfl
 | [l2],hnd =>
  refine .inr ⟨l2,rfl,?_,(h.con hw hc (l:=l2) (by simp)).1⟩;exact (h.pre (l:=l2) (by simp)).resolve_left fun h0=>hnd.1 (by rw [hp,← h0];simp)
 | l2::l3::F2,hnd =>
  have e2:=(h.pre (l:=l2) (by simp)).resolve_left fun h0=>hnd.1 (by rw [hp,← h0];simp)
  have e3:=(h.pre (l:=l3) (by simp)).resolve_left fun h0=>hnd.1 (by rw [hp,← h0];simp)
  have:=(List.nodup_cons.1 hnd.2).1;simp only [List.map_cons,e2,e3] at this;simp at this
theorem AwY.room (h:AwY k Y) (hw:WY Y lv pt) (hc:MCt Y (awC k)) (hk:k≤7) {n:Nat} (hn:9 < n+nds Y) (ho:(n≤15∧∃ l,l∈Y∧n≤l.Ls.length+1)∨n≤2):False:=by
 obtain ⟨l,F',rfl,hp,h1,h2,h3⟩:=h.form hw hc
 rw [nds_cons,h1] at hn
 rcases h3 with rfl | ⟨l2,rfl,hp2,h4⟩
 ·have e:nds []=0:=rfl
  rw [e] at hn;rcases ho with ⟨_,l',hl,h5⟩ | h5
  ·rw [List.mem_singleton.1 hl,h2] at h5
   omega
  ·omega
 ·have e:nds []=0:=rfl
  rw [nds_cons,e] at hn;obtain ⟨g1,g2,g3⟩:=(hw.ok.tow l2 (by simp)).size (hw.wb.thk l2 (by simp))
  have g4:leaves l2.Ls≤3:=by
   rcases Nat.lt_or_ge (leaves l2.Ls) 2 with h5 | h5
   ·omega
   ·have:=(hw.ok.tow l2 (by simp)).ge2 (h.1 l2 (by simp)) h5;omega
  have g5:l2.Ls.length - 1 < 2:=(Nat.pow_lt_pow_iff_right (a:=2) (by omega)).1 (by omega);rcases ho with ⟨_,l',hl,h5⟩ | h5
  ·simp only [List.mem_cons,List.not_mem_nil,or_false] at hl
   rcases hl with rfl | rfl <;> omega
  ·omega
theorem AwY.fin (h:AwY 8 Y) (hw:WY Y lv pt) (hc:MCt Y (awC 8)):Y.length=2∧3 < nds Y:=by
 obtain ⟨l,F',rfl,hp,h1,h2,h3⟩:=h.form hw hc
 have hin:∀ i,i < 8→(awK i,awV)∈awC 8:=fun i hi=>(cget_iff hc.srt).1 (awC_some i hi)
 obtain ⟨l2,hl2,hp2⟩:=deep_there (n:=1) hw.ok hc (hin 0 (by omega)) (hin 1 (by omega)) (by decide) rfl (by decide) (by decide)
 have hp3:l2.pre=awP:=hp2
 rcases h3 with rfl | ⟨l3,rfl,hp4,h4⟩
 ·rw [List.mem_singleton.1 hl2,hp] at hp3
  cases hp3
 ·simp only [List.mem_cons,List.not_mem_nil,or_false] at hl2
  rcases hl2 with rfl | rfl
  ·rw [hp] at hp3;cases hp3
  ·refine ⟨rfl,?_⟩
   have hsl:8≤(content l2.Ls).length:=by
    have hmm:∀ i,i < 8→mT (mkAt (awK i) 1)∈(content l2.Ls).map (·.1):=fun i hi=>by
     obtain ⟨j,l',s,o,g,d,_⟩:=hc.at hw.ok (hin i hi);have o2:On [l,l2] (awK i) 1 l2:=⟨by simp,hp3.trans (awK_take i).symm,.inr (by show 8*1 < (bl (awK i)).length;rw [awK_bl];exact Nat.le_refl 9)⟩
     have hj:j=0∨j=1:=by
      rcases o.lt with h0 | h0
      ·exact .inl h0
      ·rw [awK_bl] at h0
       have h9:(awP++[UInt8.ofNat (97+i)]).length=9:=rfl;omega
     rcases hj with rfl | rfl
     ·obtain ⟨l3,s3,q1,q2,q3⟩:=o2.chain hw.ok 0 (by omega)
      rw [q1.uniq hw.ok o,g] at q2;injection q2 with q2;rw [← q2,d] at q3
      cases q3
     ·rw [o.uniq hw.ok o2] at g
      exact List.mem_map.2 ⟨_,(hw.ok.cget (by simp)).1 g,rfl⟩
    have hnd:((List.range 8).map fun i=>mT (mkAt (awK i) 1)).Nodup:=by
     unfold List.Nodup;rw [List.pairwise_map];refine List.Pairwise.imp_of_mem (fun {a b} ha hb hab=>?_) (List.nodup_range (n:=8));intro e;have e2:=mT_inj (mkOf_b _) (mkOf_b _) e;rcases mk_eq e2 with e3 | ⟨e3,_⟩
     ·refine hab (awK_inj a (by simpa using ha) b (by simpa using hb) (bl_inj ?_))
      have e4:[UInt8.ofNat (97+a)]=[UInt8.ofNat (97+b)]:=e3;rw [awK_bl,awK_bl,e4]
     ·have:(keyAt (awK a) 1).length=1:=rfl
      omega
    have:=sub_len hnd (b:=(content l2.Ls).map (·.1)) fun x hx=>by
     obtain ⟨i,hi,rfl⟩:=List.mem_map.1 hx;exact hmm i (List.mem_range.1 hi)
    simpa using this
   have:=(hw.ok.tow l2 (by simp)).three (hw.wb.slim l2 (by simp)) (by omega);rw [nds_cons,nds_cons,h1];omega
end
open Go.RowKit
theorem nds_flat:∀ Y:List Ly,(flat Y).length=nds Y
 | []=>rfl
 | l::Y=>by
  have e1:(flat (l::Y)).length=nodes l.Ls+(flat Y).length:=by
   show ((l::Y).flatMap _).length=_
   rw [List.flatMap_cons,List.length_append];rfl
  rw [e1,nds_cons,nds_flat Y]
def AwI (w0 w:World) (p t k:Nat):Prop:=∃ Y,MIs w0 w p t (awC k) 9 k (9*k) Y∧AwY k Y
section
variable {w0 w w':World} {p t k:Nat}
theorem AwI.below (h:AwI w0 w p t k) (hb:Below w.heap.size w w'):AwI w0 w' p t k:=by
 obtain ⟨Y,h1,h2⟩:=h
 exact ⟨Y,h1.below hb,h2⟩
theorem AwI.put (h : AwI w0 w p t k) (hk : k < 8) : Calls Tryz.prog 22 #[.pointer (some ⟨t, 0, none⟩), .string (awK k), .string awV] w fun e w' =>
    e=.returned (.tuple #[.string s0,.bool false,.int .i64 0])∧AwI w0 w' p t (k+1):=by
 obtain ⟨Y,h1,h2,h3⟩:=h
 have hs9:(awK k).size=9:=rfl
 obtain ⟨hw,hc⟩:=h1.ok
 refine (h1.putAny (by omega) (by omega) (by omega) (by rw [awC_len k (by omega)];omega)).mono ?_
 rw [awC_none k hk,hs9]
 rintro e w' (⟨he,Y',q1,q2,q3⟩ | ⟨_,_,_,n,h4,h5⟩)
 ·refine ⟨he,Y',by rw [show 9*(k+1)=9*k+9 by omega];exact q1,q3.1 h2,q3.pres hw.ok hc (H':=awH (k+1)) (fun x ⟨i,hi,e⟩=>⟨i,by omega,e⟩) (fun q hq=>?_) ⟨k,by omega,rfl⟩ h3⟩
  obtain ⟨i,hi,e⟩:=awC_mem hq;exact ⟨i,by omega,e⟩
 ·rw [nds_flat] at h4
  have h6:=h1.pos.1;exact (AwY.room ⟨h2,h3⟩ hw hc (by omega) h4 (h5.imp id fun h=>by omega)).elim
theorem AwI.fin (h:AwI w0 w p t 8):∃ Y,MIs w0 w p t (awC 8) 9 8 72 Y∧Y.length=2∧3 < (flat Y).length:=by
 obtain ⟨Y,h1,h2⟩:=h
 obtain ⟨hw,hc⟩:=h1.ok
 exact ⟨Y,h1,by rw [nds_flat];exact h2.fin hw hc⟩
end
def awB (k:Nat):Str:=⟨#[UInt8.ofNat (97+k)]⟩
set_option maxRecDepth 100000 in
set_option maxHeartbeats 2000000 in
theorem awake15_any (w:World):Calls Tryz.prog 10 #[] w fun e w'=>e=.returned (.bool true)∧Below w.heap.size w w':=by
 go_enter Tryz.func10,Tryz.ntmps10
 go_wp2_with fail
 refine (show Calls Tryz.prog 11 #[.int .i64 9] w _ from arNewPool_some 9 w (by decide) (by decide)).mono ?_
 rintro e w1 ⟨p,g,f,rfl,hB1,hp1,hg1,hf1,hP1⟩
 have hNw:=qh (MIs.new (w0:=w) hB1 hP1 ⟨hp1,hg1,hf1⟩ (by decide))
 clear hP1 hB1
 go_wp2_with fail
 refine hNw.out.mono ?_
 clear hNw
 rintro e w2 ⟨t,r,rfl,hT⟩
 have hT:Hid (AwI w w2 p t 0):=qh ⟨_,hT,fun l hl=>by rw [List.mem_singleton.1 hl];exact .inl rfl,fun q hq=>.inl (by simpa [ly0] using hq)⟩
 go_wp2_with fail
 go_loopg [5] 8 (fun gk v wr=>∃ k:Nat,gk=8 - k∧k≤8∧v=.int .i64 k∧AwI w wr p t k)
 case atStart=>exact ⟨0,rfl,by omega,rfl,hT.out⟩
 case round =>
  clear hT;obtain ⟨k,rfl,hk,rfl,hT⟩:=hrel;by_cases hlt:k < 8
  ·have hw1:IntKind.i64.wrap (97+(k:Int))=97+(k:Int):=IntWalk.i64_in _ (by omega)
   have hw2:IntKind.u8.wrap (97+(k:Int))=97+(k:Int):=by simp [IntKind.wrap,IntKind.bits,IntKind.signed];omega
   have hcv:(convert 23 9 (.slice (some ⟨wr.heap.size,0,none⟩) 1 1)).run Tryz.prog (wr.alloc (.cells #[.int .u8 (97+(k:Int))] 5))=.ok (.string (awB k)) (wr.alloc (.cells #[.int .u8 (97+(k:Int))] 5)):=by
    refine run_convert_bytes_back (P:=Tryz.prog) (wr.alloc (.cells #[.int .u8 (97+(k:Int))] 5)) 23 9 5 ⟨wr.heap.size,0,none⟩ 1 [UInt8.ofNat (97+k)] Tryz.underlying23 Tryz.underlying5 Tryz.underlying9 (fun j hj=>?_);simp at hj;subst hj
    show (wr.alloc _).cell? ⟨wr.heap.size,0,none⟩=_
    rw [cell_of_heap (heap_alloc_new _ _)];simp;omega
   have hPu:=qh ((hT.below ((Below.refl wr.heap.size wr).alloc (Nat.le_refl _) (.cells #[.int .u8 (97+(k:Int))] 5))).put hlt);replace hT:=qh hT;have hcat:(ByteArray.mk #[97,97,97,97,97,97,97,97])++awB k=awK k:=rfl;go_wp2_with fail;refine hPu.out.mono ?_;clear hPu hcv;rintro z w4 ⟨rfl,hT4⟩;replace hT4:=qh hT4;go_wp2_with fail;go_roundg (8 - (k+1))
   case rel=>exact ⟨k+1,rfl,by omega,by go_num,hT4.out⟩
   case measure=>omega
  ·obtain rfl:k=8:=by omega
   obtain ⟨Y,hM,hY2,hF4⟩:=hT.fin;have hal:=awC_len 8 (by decide);have hG:=qh (hM.get (key:=awK 4) (by omega) (by omega) (by decide));rw [awC_some 4 (by omega)] at hG;have hLe:=qh fun W (hW:Below wr.heap.size wr W)=>(hM.below hW).len
   have hLy:=qh fun W (hW:Below wr.heap.size wr W)=>(hM.below hW).layers
   have hSl:=qh fun W (hW:Below wr.heap.size wr W)=>(hM.below hW).slots
   have hCh:=qh fun W (hW:Below wr.heap.size wr W)=>(hM.below hW).check (by omega) (by omega) (by omega)
   have hbel:=qh hM.bel;rw [hal] at hLe;rw [hY2] at hLy;obtain ⟨n,hn⟩:∃ n,n=(flat Y).length:=⟨_,rfl⟩;rw [← hn] at hSl hF4;have hv:ByteArray.toList awV=[118]:=by rw [ByteArray.toList_eq];rfl
   have hn4:decide ((3:Int) < (n:Int))=true:=by rw [decide_eq_true_iff];omega
   have hn5:decide (3 < n)=true:=by rw [decide_eq_true_iff];omega
   clear hM hY2 hn hal hT;go_wp2_with fail;refine (show Calls _ _ _ _ _ from hG.out).mono ?_;clear hG;rintro z w3 ⟨rfl,hb3⟩;replace hb3:=qh hb3;go_wp2_with fail;refine (hLe.out _ hb3.out).mono ?_;rintro z w4 ⟨rfl,rfl⟩;go_wp2_with fail;refine (hLy.out _ hb3.out).mono ?_;rintro z w4 ⟨rfl,rfl⟩;go_wp2_with fail;refine (hSl.out _ hb3.out).mono ?_;rintro z w5 ⟨rfl,hb5⟩;have hb35:=qh (hb3.out.trans (hb5.mono hb3.out.size));clear hb5;go_wp2_with fail;refine (hCh.out _ hb35.out).mono ?_;rintro z w6 ⟨rfl,hb6⟩;have hb36:=qh (hb35.out.trans (hb6.mono hb35.out.size));clear hb6;go_wp2_with fail;go_ret;exact ⟨by simp,hbel.out.trans (hb36.out.mono hbel.out.size)⟩
end Go.Proofs.YtbdealmkmpnpoaaGreat.M
namespace Go.Proofs.YtbdealmkmpnpoaaGreat
open Go.ChangeShapes Go.WideShapes Go.Deep
abbrev Kd:=Sum IntKind Bool
def Kd.Ok:Kd→Value→Prop
 | .inl k,v=>∃ n,v=.int k n∧(Lit.int k n).wf=true
 | .inr true,v=>∃ b,v=.bool b
 | .inr false,v=>∃ s:ByteArray,v=.string s∧s.size≤maxLen
def AllOk:List Kd→List Value→Prop
 | [],[]=>True
 | k::ks,v::vs=>k.Ok v∧AllOk ks vs
 | _,_=>False
theorem AllOk.append:∀ {ks ks':List Kd} {vs vs':List Value},AllOk ks vs→AllOk ks' vs'→AllOk (ks++ks') (vs++vs')
 | [],_,[],_,_,h=>h
 | [],_,_::_,_,h,_=>h.elim
 | _::_,_,[],_,h,_=>h.elim
 | _::_,_,_::_,_,h,h'=>⟨h.1,AllOk.append h.2 h'⟩
theorem AllOk.of4 {k0 k1 k2 k3:Kd}:∀ {r:List Value},AllOk [k0,k1,k2,k3] r→∃ v0 v1 v2 v3,r=[v0,v1,v2,v3]∧k0.Ok v0∧k1.Ok v1∧k2.Ok v2∧k3.Ok v3
 | [v0,v1,v2,v3],h=>⟨v0,v1,v2,v3,rfl,h.1,h.2.1,h.2.2.1,h.2.2.2.1⟩
 | [],h=>absurd h (by simp [AllOk])
 | [v0],h=>absurd h (by simp [AllOk])
 | [v0,v1],h=>absurd h (by simp [AllOk])
 | [v0,v1,v2],h=>absurd h (by simp [AllOk])
 | _::_::_::_::_::_,h=>absurd h (by simp [AllOk])
def flatFold (rec_:TypeId→Option (List Kd)) (P:Program):List Field→List Kd→Option (List Kd)
 | [],acc=>some acc
 | f::fs,acc =>
  if f.offset=acc.length then
   match rec_ f.type with
   | some ks=>if P.cellsOf f.type=ks.length then flatFold rec_ P fs (acc++ks) else none
   | none=>none
  else none
def flatOf (P:Program):Nat→TypeId→Option (List Kd)
 | 0,_=>none
 | n+1,t =>
  match P.underlying t with
  | some (.int k)=>some [.inl k]
  | some .bool=>some [.inr true]
  | some .string=>some [.inr false]
  | some (.struct fs)=>flatFold (flatOf P n) P fs.toList []
  | _=>none
section
variable {H:Type} {enc:TypeId×Value→H} {P:Program} {w:World} {base:Nat} {spare:Nat→Bool} {held:Bool}
theorem flatFold_le {rec_:TypeId→Option (List Kd)} {ks:List Kd}:∀ (fs:List Field) (acc:List Kd),flatFold rec_ P fs acc=some ks→acc.length≤ks.length
 | [],acc,h=>by simp only [flatFold,Option.some.injEq] at h;rw [h];exact Nat.le_refl _
 | f::fs,acc,h=>by
  simp only [flatFold] at h;split at h
  ·split at h
   ·split at h
    ·have:=flatFold_le fs _ h
     simp at this;omega
    ·cases h
   ·cases h
  ·cases h
theorem trod_flatFold {n m : Nat} {cs : List Value} {fs0 : Array Field} {xs : List (DataW H × List MemPlace)}
    (ih:∀ t ks cs x,flatOf P n t=some ks→DataW.trod enc P w base spare held m t cs=some x→cs.length=ks.length→AllOk ks cs)
    (hx:∀ (i:Nat) (f:Field),fs0[i]?=some f→DataW.trod enc P w base spare held m f.type ((cs.drop f.offset).take (P.cellsOf f.type))=xs[i]?) (hlen:xs.length=fs0.size) :
    ∀ (fs:List Field) (i:Nat) (acc ks:List Kd),fs0.toList.drop i=fs→flatFold (flatOf P n) P fs acc=some ks→ks.length≤cs.length→acc.length≤cs.length→AllOk acc (cs.take acc.length)→AllOk ks (cs.take ks.length):=by
 intro fs
 induction fs with
 | nil =>
  intro i acc ks _ h _ _ ha;simp only [flatFold,Option.some.injEq] at h;subst h;exact ha
 | cons f fs ihf =>
  intro i acc ks hd h hk hacc ha;simp only [flatFold] at h;split at h
  ·rename_i hoff
   split at h
   ·rename_i ks1 hks1
    split at h
    ·rename_i hcel
     have hi:fs0[i]?=some f:=by
      have h0:(fs0.toList.drop i)[0]?=some f:=by rw [hd];rfl
      rw [List.getElem?_drop] at h0;simpa using h0
     have hlt:i < fs0.size:=by
      rcases Nat.lt_or_ge i fs0.size with h1 | h1
      ·exact h1
      ·rw [Array.getElem?_eq_none h1] at hi;cases hi
     have h1:=hx i f hi;rw [List.getElem?_eq_getElem (by omega)] at h1
     have hmon:(acc++ks1).length≤ks.length:=by
      exact flatFold_le _ _ h
     have hl1:(acc++ks1).length≤cs.length:=by omega
     rw [hoff,hcel] at h1;have h2:=ih _ _ _ _ hks1 h1 (by simp at hl1 ⊢;omega);refine ihf (i+1) (acc++ks1) ks ?_ h hk hl1 ?_
     ·have:fs0.toList.drop (i+1)=(fs0.toList.drop i).drop 1:=by rw [List.drop_drop]
      rw [this,hd];rfl
     ·rw [List.length_append,List.take_add]
      exact ha.append h2
    ·cases h
   ·cases h
  ·cases h
theorem trod_flat:∀ (n m:Nat) (t:TypeId) (ks:List Kd) (cs:List Value) (x:DataW H×List MemPlace),flatOf P n t=some ks→DataW.trod enc P w base spare held m t cs=some x→cs.length=ks.length→AllOk ks cs:=by
 intro n
 induction n with
 | zero=>intro m t ks cs x h;simp [flatOf] at h
 | succ n ih =>
  intro m t ks cs x h hx hl;unfold flatOf at h;split at h
  ·rename_i k ht
   simp only [Option.some.injEq] at h;subst h;obtain ⟨z,rfl,_,hw⟩:=DataW.trod_int ht hx;exact ⟨⟨z,rfl,hw⟩,trivial⟩
  ·rename_i ht
   simp only [Option.some.injEq] at h;subst h;obtain ⟨b,rfl,_⟩:=DataW.trod_bool ht hx;exact ⟨⟨b,rfl⟩,trivial⟩
  ·rename_i ht
   simp only [Option.some.injEq] at h;subst h;obtain ⟨s,rfl,_,hs⟩:=DataW.trod_string ht hx;exact ⟨⟨s,rfl,hs⟩,trivial⟩
  ·rename_i fs ht
   obtain ⟨xs,m',_,_,_,hlen,hf⟩:=DataW.trod_struct ht hx;have:=trod_flatFold (cs:=cs) (ks:=ks) (acc:=[]) (fs:=fs.toList) (i:=0) (fun t ks cs x h1 h2 h3=>ih m' t ks cs x h1 h2 h3) hf hlen rfl h (by omega) (by simp) (by simp [AllOk])
   rwa [List.take_of_length_le (by omega)] at this
  ·cases h
def IsFlat (ks:List Kd) (w:World) (a:Option Addr) (len:Nat) (rows:List (List Value)):Prop :=
 (len=0∧rows=[]) ∨
 ∃ b off,a=some ⟨b,off,none⟩∧len≤maxLen∧rows.length=len∧b < w.heap.size∧∀ i,i < len→AllOk ks (rows.getD i [])∧∀ j,j < ks.length→w.cell? ⟨b,off+(i*ks.length+j),none⟩=(rows.getD i [])[j]?
theorem isFlat_of {fuel : Nat} {t e : TypeId} {n : Nat} {ks : List Kd} {a : Option Addr} {len cap : Nat} {x : DataW H × List MemPlace} (ht : P.underlying t = some (.slice e)) (hk : flatOf P n e = some ks) (hc : P.cellsOf e = ks.length) (h0 : 0 < ks.length)
    (h:DataW.trod enc P w base spare held fuel t [.slice a len cap]=some x):∃ rows,IsFlat ks w a len rows:=by
 rcases open_slice ht h with ⟨hcs,_⟩ | ⟨a',len',cap',m,n',D,Pl,hcs,hb,hl,hm,hmm,_,hx⟩
 ·simp at hcs
  obtain ⟨rfl,rfl,rfl⟩:=hcs;exact ⟨[],.inl ⟨rfl,rfl⟩⟩
 simp at hcs
 obtain ⟨rfl,rfl,rfl⟩:=hcs
 have hle:len≤m:=by rw [hmm];split <;> omega
 rcases Nat.eq_zero_or_pos len with rfl | hpos
 ·exact ⟨[],.inl ⟨rfl,rfl⟩⟩
 obtain ⟨C,hC⟩:=choose_lt (α:=List Value) (p:=fun i cs'=>w.cells? base (a'.add (i*P.cellsOf e)) (P.cellsOf e)=some cs'∧DataW.trod enc P w base spare held n' e cs'=some (D i,Pl i)) hx
 rw [hc] at hC
 have h00:∃ v,w.cell? a'=some v:=by
  obtain ⟨h1,h2⟩:=hC 0 (by omega);obtain ⟨_,hlen,hcell⟩:=World.cells?_some h1;have:=hcell 0 h0;rw [List.getElem?_eq_getElem (by omega)] at this;simp only [Nat.zero_mul,Addr.add,if_true] at this;exact ⟨_,this⟩
 obtain ⟨v,hv⟩:=h00
 have hsp:a'.spot=none:=by
  unfold World.cell? at hv;split at hv
  ·split at hv
   ·cases hv
   ·rename_i hh;simpa using hh
  ·cases hv
 obtain ⟨b,off,sp⟩:=a'
 simp only at hsp
 subst hsp
 refine ⟨(List.range len).map C,.inr ⟨b,off,rfl,by omega,by simp,?_,?_⟩⟩
 ·rcases Nat.lt_or_ge b w.heap.size with h1 | h1
  ·exact h1
  ·unfold World.cell? at hv
   rw [Array.getElem?_eq_none h1] at hv
   cases hv
 intro i hi
 obtain ⟨h1,h2⟩:=hC i (by omega)
 obtain ⟨_,hlen,hcell⟩:=World.cells?_some h1
 have hr:((List.range len).map C).getD i []=C i:=by simp [List.getD,hi]
 rw [hr]
 refine ⟨trod_flat _ _ _ _ _ _ hk h2 hlen,fun j hj=>?_⟩
 have:=hcell j hj
 rw [add_add] at this
 rw [← this]
 congr 1
 unfold Addr.add
 by_cases hz:i*ks.length+j=0
 ·simp [hz]
 ·rw [if_neg hz]
end
end Go.Proofs.YtbdealmkmpnpoaaGreat
namespace Go.Proofs.YtbdealmkmpnpoaaGreat.M
open Go.RowKit
abbrev A10:=Int×Str×Str×Bool
def ACell (w:World) (b o:Nat) (x:A10):Prop:=w.cell? ⟨b,o,none⟩=some (.int .i64 x.1)∧w.cell? ⟨b,o+1,none⟩=some (.string x.2.1)∧w.cell? ⟨b,o+2,none⟩=some (.string x.2.2.1)∧w.cell? ⟨b,o+3,none⟩=some (.bool x.2.2.2)
def Acts (w:World) (s:Option Addr) (L:List A10):Prop:=∀ k x,L[k]?=some x→∃ b off,s=some ⟨b,off,none⟩∧b < w.heap.size∧ACell w b (off+k*4) x
def Sizes (L:List A10):Prop:=∀ x,x∈L→x.2.1.size≤maxLen∧x.2.2.1.size≤maxLen
theorem ACell.below {w w':World} {b o:Nat} {x:A10} (h:ACell w b o x) (hb:Below w.heap.size w w'):ACell w' b o x:=⟨keep hb h.1,keep hb h.2.1,keep hb h.2.2.1,keep hb h.2.2.2⟩
theorem Acts.below {w w':World} {s:Option Addr} {L:List A10} (h:Acts w s L) (hb:Below w.heap.size w w'):Acts w' s L:=fun k x hx=>by
 obtain ⟨b,off,h1,h2,h3⟩:=h k x hx
 exact ⟨b,off,h1,Nat.lt_of_lt_of_le h2 hb.size,h3.below hb⟩
abbrev act10K:List Kd:=[.inl .i64,.inr false,.inr false,.inr true]
theorem acts_row {w : World} {s : Option Addr} {len : Nat} {rows : List (List Value)} (hr : IsFlat act10K w s len rows) :
    ∀ k,k < len→∃ x:A10,∃ b off,s=some ⟨b,off,none⟩∧b < w.heap.size∧ACell w b (off+k*4) x∧x.2.1.size≤maxLen∧x.2.2.1.size≤maxLen:=by
 intro k hk
 rcases hr with ⟨h0,_⟩ | ⟨b,off,hs,_,_,hb,hc⟩
 ·omega
 obtain ⟨h1,h2⟩:=hc k hk
 generalize rows.getD k []=r at *
 obtain ⟨v0,v1,v2,v3,rfl,⟨n0,rfl,q0⟩,⟨x1,rfl,q1⟩,⟨x2,rfl,q2⟩,⟨b3,rfl⟩⟩:=h1.of4
 have g0:=h2 0 (by simp)
 have g1:=h2 1 (by simp)
 have g2:=h2 2 (by simp)
 have g3:=h2 3 (by simp)
 simp only [List.length_cons,List.length_nil,Nat.zero_add,Nat.reduceAdd,Nat.add_zero,← Nat.add_assoc,zg2,zg3] at g0 g1 g2 g3
 exact ⟨(n0,x1,x2,b3),b,off,hs,hb,⟨g0,g1,g2,g3⟩,q1,q2⟩
theorem acts_of_flat {w:World} {s:Option Addr} {len:Nat} {rows:List (List Value)} (hr:IsFlat act10K w s len rows):∃ L:List A10,L.length=len∧Acts w s L∧Sizes L:=by
 have key:∀ n,n≤len→∃ L:List A10,L.length=n∧Acts w s L∧Sizes L:=by
  intro n
  induction n with
  | zero=>exact fun _=>⟨[],rfl,fun k x hx=>by simp at hx,fun x hx=>by cases hx⟩
  | succ n ih =>
   intro hn;obtain ⟨L,hL,hA,hS⟩:=ih (by omega);obtain ⟨y,b,off,y1,y2,y3,y4⟩:=acts_row hr n (by omega);refine ⟨L++[y],by simp [hL],fun k x hx=>?_,fun x hx=>?_⟩
   rotate_left 1
   ·rcases List.mem_append.1 hx with h1 | h1
    ·exact hS x h1
    ·simp at h1
     subst h1;exact y4
   rcases Nat.lt_or_ge k L.length with h1 | h1
   ·rw [List.getElem?_append_left h1] at hx
    exact hA k x hx
   ·rw [List.getElem?_append_right h1] at hx
    have h2:=(List.getElem?_eq_some_iff.1 hx).1;simp at h2;have h3:k=n:=by omega
    subst h3;rw [hL] at hx;simp at hx;rw [← hx];exact ⟨b,off,y1,y2,y3⟩
 exact key len (Nat.le_refl _)
def stepC (C:Cont Str) (x:A10):Cont Str:=if x.1=0 then cput C x.2.1 x.2.2.1 else if x.1=1 then cdel C x.2.1 else C
def doneC (L:List A10):Cont Str:=L.foldl stepC []
theorem doneC_snoc (L:List A10) (x:A10):doneC (L++[x])=stepC (doneC L) x:=by simp [doneC]
theorem take_next {α:Type} {L:List α} {k:Nat} {x:α} (h:L[k]?=some x):L.take (k+1)=L.take k++[x]:=by
 obtain ⟨h1,h2⟩:=List.getElem?_eq_some_iff.1 h
 rw [List.take_succ_eq_append_getElem h1,h2]
def kb (L:List A10):Nat:=(L.map fun x=>x.2.1.size).sum
def msz (L:List A10):Nat:=(L.map fun x=>min x.2.1.size 40001+min x.2.2.1.size 40001).sum
theorem kb_le:∀ {L:List A10},msz L≤40000→kb L≤msz L
 | [],_=>Nat.le_refl _
 | x::L,h=>by
  unfold msz kb at *;rw [List.map_cons,List.sum_cons] at h ⊢;rw [List.map_cons,List.sum_cons];have:=kb_le (L:=L) (by unfold msz;omega);unfold msz kb at this;omega
theorem msz_take (L:List A10) (k:Nat) {x:A10} (h:L[k]?=some x):msz (L.take (k+1))=msz (L.take k)+(min x.2.1.size 40001+min x.2.2.1.size 40001):=by
 rw [take_next h]
 simp [msz]
theorem kb_take (L:List A10) (k:Nat) {x:A10} (h:L[k]?=some x):kb (L.take (k+1))=kb (L.take k)+x.2.1.size:=by
 rw [take_next h]
 simp [kb]
theorem kb_le_all (L:List A10) (k:Nat):kb (L.take k)≤kb L:=by
 have h:kb L=kb (L.take k)+kb (L.drop k):=by
  conv=>lhs;rw [← List.take_append_drop k L]
  unfold kb;rw [List.map_append,List.sum_append]
 omega
theorem kb_mem {L:List A10} {x:A10} (h:x∈L):x.2.1.size≤kb L:=by
 obtain ⟨A,B,rfl⟩:=List.append_of_mem h
 simp [kb]
 omega
def MI (w0 w:World) (p t:Nat) (C:Cont Str) (c0 k pt:Nat) (H:Str→Prop):Prop :=
 ∃ k' pt' Y,k'≤k∧pt'≤pt∧MIs w0 w p t C c0 k' pt' Y∧Pres (Y.map (·.pre)) H∧∀ q,q∈C→H q.1
def Eight (H:Str→Prop):Prop:=∃ k1 k2,H k1∧H k2∧k1≠k2∧8 < (bl k1).length∧8 < (bl k2).length∧(bl k1).take 8=(bl k2).take 8
section
variable {w0 w w':World} {C:Cont Str} {c0 k pt p t:Nat} {key v:Str} {H:Str→Prop}
theorem MI.below (h:MI w0 w p t C c0 k pt H) (hb:Below w.heap.size w w'):MI w0 w' p t C c0 k pt H:=by
 obtain ⟨k',pt',Y,h1,h2,h3,h4⟩:=h
 exact ⟨k',pt',Y,h1,h2,h3.below hb,h4⟩
theorem MI.up (h:MI w0 w p t C c0 k pt H) {k' pt':Nat} (h1:k≤k') (h2:pt≤pt'):MI w0 w p t C c0 k' pt' H:=by
 obtain ⟨k2,pt2,Y,h3,h4,h5⟩:=h
 exact ⟨k2,pt2,Y,by omega,by omega,h5⟩
theorem MI.bel (h:MI w0 w p t C c0 k pt H):Below w0.heap.size w0 w:=by
 obtain ⟨k',pt',Y,h1,h2,h3,h4⟩:=h
 exact h3.bel
theorem MI.sorted (h:MI w0 w p t C c0 k pt H):CSort C:=by
 obtain ⟨k',pt',Y,h1,h2,h3,h4⟩:=h
 exact h3.sorted
theorem MI.get (h : MI w0 w p t C c0 k pt H) (hk : k ≤ 1000) (hpt : pt ≤ 100000) (hks : key.size ≤ 100000000) : Calls Tryz.prog 15 #[.pointer (some ⟨t, 0, none⟩), .string key, .nilFunc] w fun e w' =>
    e=.returned (.tuple #[.string ((M.cget C key).getD s0),.bool (M.cget C key).isSome,.bool false])∧Below w.heap.size w w':=by
 obtain ⟨k',pt',Y,h1,h2,h3,h4⟩:=h
 exact h3.get (by omega) (by omega) hks
theorem MI.next (h : MI w0 w p t C c0 k pt H) (hk : k ≤ 1000) (hpt : pt ≤ 100000) (hks : key.size ≤ 100000000) (after : Bool) : Calls Tryz.prog 18 #[.pointer (some ⟨t, 0, none⟩), .string key, .bool after, .nilFunc] w fun e w' =>
    e=.returned (.tuple #[.string (fK (M.cnext C key after)),.string (fX (M.cnext C key after)),.bool (M.cnext C key after).isSome,.bool false])∧Below w.heap.size w w':=by
 obtain ⟨k',pt',Y,h1,h2,h3,h4⟩:=h
 exact h3.next (by omega) (by omega) hks after
theorem MI.all (h:MI w0 w p t C c0 k pt H) (hk:k≤1000) (hpt:pt≤100000) (hC:C.length≤100000):Calls Tryz.prog 30 #[.pointer (some ⟨t,0,none⟩)] w (AllEnd w C):=by
 obtain ⟨k',pt',Y,h1,h2,h3,h4⟩:=h
 exact h3.all (by omega) (by omega) hC
theorem MI.len (h:MI w0 w p t C c0 k pt H):Calls Tryz.prog 24 #[.pointer (some ⟨t,0,none⟩)] w fun e w'=>e=.returned (.int .i64 ((C.length:Nat):Int))∧w=w':=by
 obtain ⟨k',pt',Y,h1,h2,h3,h4⟩:=h
 exact h3.len
theorem MI.check (h:MI w0 w p t C c0 k pt H) (hk:k≤1000) (hpt:pt≤100000) (hC:C.length≤100000000):Calls Tryz.prog 20 #[.pointer (some ⟨t,0,none⟩)] w fun e w'=>e=.returned (.bool true)∧Below w.heap.size w w':=by
 obtain ⟨k',pt',Y,h1,h2,h3,h4⟩:=h
 exact h3.check (by omega) (by omega) hC
theorem MI.slots (h : MI w0 w p t C c0 k pt H) : ∃ n : Nat, n ≤ c0 ∧ (∀ W, Below w.heap.size w W → Calls Tryz.prog 25 #[.pointer (some ⟨t, 0, none⟩)] W fun e w' => e = .returned (.int .i64 (n : Int)) ∧ Below W.heap.size W w') ∧
    ∀ W,Below w.heap.size w W→Calls Tryz.prog 26 #[.pointer (some ⟨p,0,none⟩)] W fun e w'=>e=.returned (.int .i64 (n:Int))∧Below W.heap.size W w':=by
 obtain ⟨k',pt',Y,h1,h2,h3,h4⟩:=h
 exact ⟨(flat Y).length,by obtain ⟨_,_,_,_,_,_,h⟩:=h3.cnt;omega,fun W hW=>(h3.below hW).slots,fun W hW=>(h3.below hW).live⟩
theorem MI.layers (h:MI w0 w p t C c0 k pt H) (hpt:pt≤100000):∃ n:Nat,1≤n∧n≤100000∧(n=1∨Eight H)∧∀ W,Below w.heap.size w W→Calls Tryz.prog 27 #[.pointer (some ⟨t,0,none⟩)] W fun e w'=>e=.returned (.int .i64 (n:Int))∧W=w':=by
 obtain ⟨k',pt',Y,h1,h2,h3,h4,h5⟩:=h
 obtain ⟨g1,g2⟩:=h3.pos
 refine ⟨Y.length,g1,by omega,?_,fun W hW=>(h3.below hW).layers⟩
 rcases Nat.lt_or_ge Y.length 2 with h6 | h6
 ·exact .inl (by omega)
 ·right
  obtain ⟨l,F',rfl,hp⟩:=h3.ok.1.ok.root;have hnd:=h3.ok.1.ok.pre
  match F',h6,hnd,h4 with
  | l2::F2,_,hnd,h4 =>
   rw [List.map_cons,List.nodup_cons] at hnd;rcases h4 l2.pre (by simp) with h0 | ⟨k1,k2,n,a1,a2,a3,a4,a5,a6,a7,a8⟩
   ·exact absurd (by rw [hp,← h0];simp) hnd.1
   ·refine ⟨k1,k2,a1,a2,a3,by omega,by omega,?_⟩
    rw [← take_pre (k:=bl k1) (show 8≤8*n by omega),← a5,a6,take_pre (by omega)]
theorem MI.put (h : MI w0 w p t C c0 k pt H) (hk : k ≤ 1000) (hpt : pt ≤ 100000) (hks : key.size ≤ 100000) (hC : C.length ≤ 1000000000) (hc : 2 * k + 17 + (pt + key.size) / 16 ≤ c0) (hH : H key) :
    Calls Tryz.prog 22 #[.pointer (some ⟨t,0,none⟩),.string key,.string v] w fun e w' =>
     e=.returned (.tuple #[.string ((M.cget C key).getD s0),.bool (M.cget C key).isSome,.int .i64 0])∧MI w0 w' p t (cput C key v) c0 (k+1) (pt+key.size) H:=by
 obtain ⟨k',pt',Y,h1,h2,h3,h4,h5⟩:=h
 refine (h3.put (by omega) (by omega) hks hC (by omega)).mono ?_
 rintro e w' ⟨he,Y',q1,q2,q3⟩
 refine ⟨he,k'+1,pt'+key.size,Y',by omega,by omega,q1,q3.pres h3.ok.1.ok h3.ok.2 (fun _ h=>h) h5 hH h4,fun q hq=>?_⟩
 have:=(mem_cput (k':=q.1) (v':=q.2) h3.sorted).1 hq
 split at this
 ·rename_i e
  rw [← e];exact hH
 ·exact h5 q this
theorem MI.delete (h : MI w0 w p t C c0 k pt H) (hk : k ≤ 1000) (hpt : pt ≤ 100000) (hks : key.size ≤ 100000) (hC : C.length ≤ 1000000000) :
    Calls Tryz.prog 23 #[.pointer (some ⟨t,0,none⟩),.string key] w fun e w' =>
     e=.returned (.tuple #[.string ((M.cget C key).getD s0),.bool (M.cget C key).isSome])∧MI w0 w' p t (cdel C key) c0 k pt H:=by
 obtain ⟨k',pt',Y,h1,h2,h3,h4,h5⟩:=h
 refine (h3.delete (by omega) (by omega) hks hC).mono ?_
 rintro e w' ⟨he,Y',q1,q2,q3⟩
 exact ⟨he,k',pt',Y',h1,h2,q1,by rw [q3];exact h4,fun q hq=>h5 q (List.mem_filter.1 hq).1⟩
theorem MI.cput_le (h:MI w0 w p t C c0 k pt H) (key v:Str):(cput C key v).length≤C.length+1:=by
 rw [cput_len h.sorted]
 split <;> omega
theorem MI.cdel_le (h:MI w0 w p t C c0 k pt H) (key:Str):(cdel C key).length≤C.length:=by
 rw [(cdel_len h.sorted key).1]
 split <;> omega
theorem MI.new {g f n : Nat} (hb : Below w0.heap.size w0 w) (hp : PoolIs w p g f (List.replicate n 1) (List.replicate n true)) (hl : w0.heap.size ≤ p ∧ w0.heap.size ≤ g ∧ w0.heap.size ≤ f) (hn : 1 ≤ n) (H : Str → Prop) :
    Calls Tryz.prog 12 #[.pointer (some ⟨p,0,none⟩)] w fun e w'=>∃ t,e=.returned (.tuple #[.pointer (some ⟨t,0,none⟩),.int .i64 0])∧MI w0 w' p t [] n 0 0 H:=by
 refine (MIs.new hb hp hl hn).mono ?_
 rintro e w' ⟨t,r,he,h⟩
 exact ⟨t,he,0,0,_,Nat.le_refl _,Nat.le_refl _,h,fun q hq=>.inl (by simpa [ly0] using hq),fun q hq=>by cases hq⟩
end
set_option maxHeartbeats 1000000 in
theorem great15_any (s : Option Addr) (cap : Nat) (L : List A10) (w : World) (hr : Acts w s L) (hsz : Sizes L) (hlen : L.length ≤ maxLen) :
    Calls Tryz.prog 21 #[.slice s L.length cap] w fun e w'=>(e=.returned (.bool true)∨(e=.returned (.bool false)∧L.length≤300∧kb L≤40000))∧Below w.heap.size w w':=by
 have hro:=qh hr
 have hszs:=qh hsz
 clear hr hsz
 unfold maxLen at hlen
 go_enter Tryz.func21,Tryz.ntmps21
 go_wp2_with fail
 obtain ⟨len,hle⟩:∃ len,len=L.length:=⟨_,rfl⟩
 rw [← hle] at hlen ⊢
 replace hle:=qh hle
 go_loopw [3,4] (fun n i wr=>∃ (k:Nat) (m:Nat),k≤len∧k≤301∧n=.int .i64 m∧i=.int .i64 k∧m=msz (L.take k)∧m≤k*80002∧Below w.heap.size w wr) (fun _ i _=>len - (intOf i).toNat)
 case atStart=>exact ⟨0,0,Nat.zero_le _,Nat.zero_le _,rfl,rfl,rfl,by omega,Below.refl _ _⟩
 case round =>
  obtain ⟨k,m,hk,hk2,rfl,rfl,hms,hm,hB⟩:=hrel;replace hms:=qh hms;replace hB:=qh hB;by_cases hlt:k < len
  ·by_cases h2:k≤300
   ·obtain ⟨x,hx⟩:∃ x,L[k]?=some x:=⟨_,List.getElem?_eq_getElem (by have:=hle.out;omega)⟩
    obtain ⟨b,off,rfl,hbw,hact⟩:=hro.out k x hx;obtain ⟨hx1,hx2⟩:=hszs.out x (List.mem_of_getElem? hx);have g1:=keep hB.out hact.2.1;have g2:=keep hB.out hact.2.2.1;unfold maxLen at hx1 hx2;have hmk:=qh (msz_take L k hx);obtain ⟨dd,x1,x2,aft⟩:=x;simp only at g1 g2 hx1 hx2;have hA2:(k:Int) < (len:Int):=by omega
    have hA3:(0:Int)≤(k:Int):=by omega
    clear hact hro hx
    have hmin:∀ x:Str,∃ y:Nat,(if (40001:Int) < (x.size:Int) then (40001:Int) else (x.size:Int))=y∧y≤40001∧y=min x.size 40001:=fun x=>by
     by_cases hh:(40001:Int) < (x.size:Int)
     ·exact ⟨40001,by simp [hh],by omega,by omega⟩
     ·exact ⟨x.size,by simp [hh],by omega,by omega⟩
    obtain ⟨y1,hy1,hz1,hq1⟩:=hmin x1;obtain ⟨y2,hy2,hz2,hq2⟩:=hmin x2;replace hq1:=qh hq1;replace hq2:=qh hq2;have hs1:IntKind.i64.wrap ((m:Int)+(y1:Int))=(m:Int)+(y1:Int):=IntWalk.i64_in _ (by omega);have hs2:IntKind.i64.wrap ((m:Int)+(y1:Int)+(y2:Int))=(m:Int)+(y1:Int)+(y2:Int):=IntWalk.i64_in _ (by omega);clear hmin;go_wp2_with fail;go_quiet (fail);go_wp2_with fail
    go_roundw
    case rel=>exact ⟨k+1,m+y1+y2,by omega,by omega,by simp,by go_num,by have h1:msz (L.take (k+1))=msz (L.take k)+(min x1.size 40001+min x2.size 40001):=hmk.out;have:=hq1.out;have:=hq2.out;have:=hms.out;omega,by rw [Nat.add_mul];omega,below_drewN hB.out _⟩
    case measure=>simp [intOf];omega
   ·have hk3:(k:Int)=301:=by omega
    go_wp2_with fail
    all_goals
     go_ret;exact ⟨.inl rfl,hB.out⟩
  ·have hk3:(k:Int)=len:=by omega
   have hm6:m≤40000∨40000 < m:=by omega
   by_cases h200:300 < len
   ·go_wp2_with fail
    go_ret;exact ⟨.inl rfl,hB.out⟩
   rcases hm6 with hm6 | hm6
   ·go_wp2_with fail
    go_ret;refine ⟨.inr ⟨?_,by have:=hle.out;omega,?_⟩,hB.out⟩
    rotate_left 1
    ·have hkl:L.take k=L:=List.take_of_length_le (by have:=hle.out;omega)
     have h1:=hms.out;rw [hkl] at h1;exact Nat.le_trans (kb_le (by omega)) (by omega)
    simp;omega
   ·go_wp2_with fail
    go_ret;refine ⟨.inl ?_,hB.out⟩;simp;omega
set_option linter.unusedVariables false
def MadeEnd (H:Str→Prop) (w:World) (L:List A10) (e:Ending) (w':World):Prop:=∃ p t,e=.returned (.tuple #[.pointer (some ⟨t,0,none⟩),.pointer (some ⟨p,0,none⟩),.bool true])∧MI w w' p t (doneC L) 4096 300 40000 H∧(doneC L).length≤L.length
set_option maxRecDepth 100000 in
set_option maxHeartbeats 2000000 in
theorem made15_any (s : Option Addr) (cap : Nat) (L : List A10) (w : World) (hr : Acts w s L) (hlen : L.length ≤ 300) (hkb : kb L ≤ 40000) (H : Str → Prop) (hH : ∀ x, x ∈ L → x.1 = 0 → H x.2.1) :
    Calls Tryz.prog 29 #[.slice s L.length cap] w (MadeEnd H w L):=by
 have hro:=qh hr
 replace hH:=qh hH
 replace hkb:=qh hkb
 clear hr
 go_enter Tryz.func29,Tryz.ntmps29
 go_wp2_with fail
 refine (show Calls Tryz.prog 11 #[.int .i64 4096] w _ from arNewPool_some 4096 w (by omega) (by omega)).mono ?_
 rintro e w1 ⟨p,g,f,rfl,hB1,hp1,hg1,hf1,hP1⟩
 have hNw:=qh (MI.new (w0:=w) hB1 hP1 ⟨hp1,hg1,hf1⟩ (by omega) H)
 clear hP1 hB1
 go_wp2_with fail
 refine hNw.out.mono ?_
 clear hNw
 rintro e w2 ⟨t,rfl,hT⟩
 replace hT:=qh hT
 obtain ⟨len,hle⟩:∃ len,len=L.length:=⟨_,rfl⟩
 rw [← hle] at hlen ⊢
 replace hle:=qh hle
 go_wp2_with fail
 go_loopg [8] len (fun gk v wr=>∃ k:Nat,gk=len - k∧k≤len∧v=.int .i64 k∧MI w wr p t (doneC (L.take k)) 4096 k (kb (L.take k)) H∧(doneC (L.take k)).length≤k)
 case atStart=>exact ⟨0,rfl,by omega,rfl,hT.out,by simp [doneC]⟩
 case round =>
  clear hT;obtain ⟨k,rfl,hk,rfl,hT,hCl⟩:=hrel;by_cases hlt:k < len
  ·obtain ⟨x,hx⟩:∃ x,L[k]?=some x:=⟨_,List.getElem?_eq_getElem (by have:=hle.out;omega)⟩
   obtain ⟨b,off,rfl,hbw,hact⟩:=hro.out k x hx;have hsn:Hid (doneC (L.take (k+1))=stepC (doneC (L.take k)) x):=qh (by rw [take_next hx,doneC_snoc]);have hl1:=qh (hT.cput_le x.2.1 x.2.2.1);have hl2:=qh (hT.cdel_le x.2.1);have hkt:=kb_take L k hx;have hka:=kb_le_all L (k+1);have hkm:=kb_mem (List.mem_of_getElem? hx);have hk4:=hkb.out;have hPu:=qh fun W (hW:Below wr.heap.size wr W)=>fun h0=>(hT.below hW).put (key:=x.2.1) (v:=x.2.2.1) (by omega) (by omega) (by omega) (by omega) (by omega) (hH.out x (List.mem_of_getElem? hx) h0)
   have hDe:=qh fun W (hW:Below wr.heap.size wr W)=>(hT.below hW).delete (key:=x.2.1) (by omega) (by omega) (by omega) (by omega)
   have hT':=qh hT;replace hkt:=qh hkt;clear hka hkm hk4;obtain ⟨g0,g1,g2,g3⟩:=hact.below hT.bel;have hbw2:=block_lt_of_cell g0;obtain ⟨C,hC⟩:∃ C,C=doneC (L.take k):=⟨_,rfl⟩;rw [← hC] at hCl hsn hl1 hl2 hPu hDe hT';clear hT hC hact;obtain ⟨dd,x1,x2,aft⟩:=x;simp only at g0 g1 g2 g3 hl1 hl2 hPu hDe;have hA2:(k:Int) < (len:Int):=by omega
   have hA3:(0:Int)≤(k:Int):=by omega
   have hw1:IntKind.i64.wrap ((k:Int)+1)=(k:Int)+1:=IntWalk.i64_in _ (by omega);replace hx:=qh hx;by_cases h0:dd=0
   ·subst h0
    go_upto_region 12 with fail
    go_region_with (go_at_call 22;refine (hPu.out _ (Below.refl _ _).drew rfl).mono ?_;rintro z w5 ⟨rfl,hT5⟩;replace hT5:=qh hT5)
    all_goals
     go_wp2_with fail;go_roundg (len - (k+1))
     case rel =>
      refine ⟨k+1,rfl,by omega,by go_num,?_,?_⟩
      ·rw [hsn.out];exact hT5.out.up (Nat.le_refl _) (Nat.le_of_eq hkt.out.symm)
      ·rw [hsn.out]
       have:=hl1.out
       show (cput C x1 x2).length≤k+1
       omega
     case measure=>omega
   ·have h0b:(dd == 0)=false:=by simpa using h0
    by_cases h1:dd=1
    ·subst h1
     replace h0:=qh h0;go_wp2_with fail;refine (hDe.out _ (Below.refl _ _)).mono ?_;rintro z w5 ⟨rfl,hT5⟩;replace hT5:=qh hT5;go_wp2_with fail;go_roundg (len - (k+1))
     case rel =>
      refine ⟨k+1,rfl,by omega,by go_num,?_,?_⟩
      ·rw [hsn.out];exact hT5.out.up (by omega) (by rw [hkt.out];exact Nat.le_add_right _ _)
      ·rw [hsn.out]
       have:=hl2.out
       show (cdel C x1).length≤k+1
       omega
     case measure=>omega
    ·have h1b:(dd == 1)=false:=by simpa using h1
     have hst:Hid (stepC C (dd,x1,x2,aft)=C):=qh (by unfold stepC;rw [if_neg h0,if_neg h1]);replace h0:=qh h0;replace h1:=qh h1;go_wp2_with fail;go_roundg (len - (k+1))
     case rel =>
      refine ⟨k+1,rfl,by omega,by go_num,?_,?_⟩
      ·rw [hsn.out,hst.out];exact hT'.out.up (by omega) (by rw [hkt.out];exact Nat.le_add_right _ _)
      ·rw [hsn.out,hst.out];omega
     case measure=>omega
  ·obtain rfl:k=len:=by omega
   have hLt:L.take k=L:=List.take_of_length_le (by have:=hle.out;omega);rw [hLt] at hT hCl;replace hT:=qh hT;replace hCl:=qh hCl;go_wp2_with fail;go_ret3;exact ⟨p,t,rfl,hT.out.up (by omega) hkb.out,by have:=hle.out;have:=hCl.out;omega⟩
def toAct (p:Str×Str):A10:=(0,p.1,p.2,false)
theorem doneC_rev:∀ {C:Cont Str},CSort C→doneC (C.reverse.map toAct)=C
 | [],_=>rfl
 | p::C,h=>by
  obtain ⟨h1,h2⟩:=List.pairwise_cons.1 h;rw [List.reverse_cons,List.map_append,List.map_cons,List.map_nil,doneC_snoc,doneC_rev h2]
  show cput C p.1 p.2=p::C
  unfold cput;rw [filter_none (fun q hq=>slt_asymm (h1 q hq)),filter_all (fun q hq=>h1 q hq)];rfl
theorem pair_cells {w : World} {a : Option Addr} {c : Nat} {C : Cont Str} (h : At w 2 pcel a c C) {i : Nat} {x : Str × Str} (hx : C[i]? = some x) :
    ∃ b o,a=some ⟨b,o,none⟩∧b < w.heap.size∧C.length≤c∧c≤9223372036854775807∧w.cell? ⟨b,o+i*2,none⟩=some (.string x.1)∧w.cell? ⟨b,o+i*2+1,none⟩=some (.string x.2):=by
 obtain ⟨b,o,e,h1,h2,h3,h4⟩:=h.some (by have:=(List.getElem?_eq_some_iff.1 hx).1;omega)
 exact ⟨b,o,e,h1,h2,h3,by simpa using h4 i x hx 0 _ rfl,h4 i x hx 1 _ rfl⟩
def ksum (C:Cont Str):Nat:=(C.map fun p=>p.1.size).sum
theorem ksum_parts:∀ (C:Cont Str) (k:Str),ksum (C.filter fun p=>slt p.1 k)+ksum (C.filter fun p=>slt k p.1)≤ksum C
 | [],_=>Nat.le_refl _
 | p::C,k=>by
  have ih:=ksum_parts C k;unfold ksum at *
  cases h1:slt p.1 k
  ·cases h2:slt k p.1 <;> simp only [List.filter_cons,h1,h2,if_true,Bool.false_eq_true,if_false,List.map_cons,List.sum_cons] <;> omega
  ·have h2:slt k p.1=false:=slt_asymm h1
   simp only [List.filter_cons,h1,h2,if_true,Bool.false_eq_true,if_false,List.map_cons,List.sum_cons];omega
theorem ksum_cput (C:Cont Str) (k v:Str):ksum (cput C k v)≤ksum C+k.size:=by
 have:=ksum_parts C k
 unfold cput
 unfold ksum at *
 simp only [List.map_append,List.map_cons,List.sum_append,List.sum_cons]
 omega
theorem ksum_filter (q:Str×Str→Bool):∀ C:Cont Str,ksum (C.filter q)≤ksum C
 | []=>Nat.le_refl _
 | p::C=>by
  have ih:=ksum_filter q C;unfold ksum at *
  cases h1:q p <;> simp only [List.filter_cons,h1,if_true,Bool.false_eq_true,if_false,List.map_cons,List.sum_cons] <;> omega
theorem ksum_done:∀ (L:List A10) (C:Cont Str),ksum (L.foldl stepC C)≤ksum C+kb L
 | [],_=>Nat.le_add_right _ _
 | x::L,C=>by
  have ih:=ksum_done L (stepC C x)
  have h1:ksum (stepC C x)≤ksum C+x.2.1.size:=by
   unfold stepC;split
   ·exact ksum_cput _ _ _
   ·split
    ·exact Nat.le_trans (ksum_filter _ _) (Nat.le_add_right _ _)
    ·exact Nat.le_add_right _ _
  rw [List.foldl_cons];have h2:kb (x::L)=x.2.1.size+kb L:=by simp [kb]
  omega
theorem kb_rev:∀ C:Cont Str,kb (C.reverse.map toAct)=ksum C
 | []=>rfl
 | p::C=>by
  have ih:=kb_rev C;unfold kb ksum at *;rw [List.reverse_cons,List.map_append,List.map_append,List.sum_append,ih];simp [toAct];omega
theorem ksum_mem {C:Cont Str} {q:Str×Str} (h:q∈C):q.1.size≤ksum C:=by
 obtain ⟨A,B,rfl⟩:=List.append_of_mem h
 simp [ksum]
 omega
set_option maxRecDepth 100000 in
set_option maxHeartbeats 1000000 in
theorem pairs15_any (a1 a2 : Option Addr) (c1 c2 : Nat) (C : Cont Str) (w : World) (h1 : At w 2 pcel a1 c1 C) (h2 : At w 2 pcel a2 c2 C) (hC : C.length ≤ 100000) :
    Calls Tryz.prog 31 #[.slice a1 C.length c1,.slice a2 C.length c2] w fun e w'=>e=.returned (.bool true)∧Below w.heap.size w w':=by
 have g1:=qh fun i x hx=>pair_cells h1 (i:=i) (x:=x) hx
 have g2:=qh fun i x hx=>pair_cells h2 (i:=i) (x:=x) hx
 clear h1 h2
 obtain ⟨n,hn⟩:∃ n,n=C.length:=⟨_,rfl⟩
 rw [← hn] at hC ⊢
 replace hn:=qh hn
 go_enter Tryz.func31,Tryz.ntmps31
 go_wp2_with fail
 go_loopg [5] n (fun gk v wr=>∃ k:Nat,gk=n - k∧k≤n∧v=.int .i64 k∧Below w.heap.size w wr)
 case atStart=>exact ⟨0,rfl,by omega,rfl,Below.refl _ _⟩
 case round =>
  obtain ⟨k,rfl,hk,rfl,hB⟩:=hrel;by_cases hlt:k < n
  ·obtain ⟨x,hx⟩:∃ x,C[k]?=some x:=⟨_,List.getElem?_eq_getElem (by have:=hn.out;omega)⟩
   obtain ⟨b,o,rfl,hb1,hl1,hc1,k0,k1⟩:=g1.out k x hx;obtain ⟨b',o',rfl,hb2,hl2,hc2,j0,j1⟩:=g2.out k x hx;have x0:=keep hB k0;have x1:=keep hB k1;have y0:=keep hB j0;have y1:=keep hB j1;have hbw:=block_lt_of_cell x0;have hbw2:=block_lt_of_cell y0;have hA2:(k:Int) < (n:Int):=by omega
   have hA3:(0:Int)≤(k:Int):=by omega
   have hw1:IntKind.i64.wrap ((k:Int)+1)=(k:Int)+1:=IntWalk.i64_in _ (by omega);replace hB:=qh hB;obtain ⟨p,q⟩:=x;simp only at x0 x1 y0 y1;clear k0 k1 j0 j1 hx;go_upto_region 6 with fail;go_cut [25] (fun v wx=>v=.bool false∧Below wr.heap.size wr wx)
   case first =>
    go_quiet (fail);go_wp2_with fail;go_meet;exact ⟨by simp,below_drewN (Below.refl _ _) _⟩
   case rest =>
    obtain ⟨rfl,hb7⟩:=hcut;have hB7:=qh (hB.out.trans (hb7.mono hB.out.size));clear hb7 x0 x1 y0 y1;go_wp2_with fail;go_roundg (n - (k+1))
    case rel=>exact ⟨k+1,rfl,by omega,by go_num,hB7.out⟩
    case measure=>omega
  ·obtain rfl:k=n:=by omega
   replace hB:=qh hB;go_wp2_with fail;go_ret;exact ⟨rfl,hB.out⟩
end Go.Proofs.YtbdealmkmpnpoaaGreat.M
