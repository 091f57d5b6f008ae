import Derived.Lib.SliceRun
import Derived.Deep.RegionLaw
import Derived.Laws.MakeOwn
import Derived.Laws.IdiomStrings
import Derived.Test.YtbdealmkmpnpoaaGreatRows
import Derived.WalkKit
import Derived.ProofKit
import Derived.OpenShut
import Derived.ShutString
import Derived.ChangeOld
import Derived.Below
import Derived.Test.YtbdealmkmpnpoaaGreatQk01
import Derived.Test.YtbdealmkmpnpoaaGreatQk02
import Derived.Test.YtbdealmkmpnpoaaGreatQk03
import Derived.Test.YtbdealmkmpnpoaaGreatQk04
import Derived.Test.YtbdealmkmpnpoaaGreatQk05
import Derived.Test.YtbdealmkmpnpoaaGreatQk06
import Derived.Test.YtbdealmkmpnpoaaGreatQk07
import Derived.Test.YtbdealmkmpnpoaaGreatQk08
import Derived.Test.YtbdealmkmpnpoaaGreatQk09
import Derived.Test.YtbdealmkmpnpoaaGreatQk10
import Derived.Test.YtbdealmkmpnpoaaGreatQk11
import Derived.Test.YtbdealmkmpnpoaaGreatQk12
import Derived.Test.YtbdealmkmpnpoaaGreatQk13
set_option linter.all false
namespace Go.Proofs.YtbdealmkmpnpoaaGreat.M
open Go.RowKit
theorem wsum_le (g:Ly→Nat) (F:List Ly) (p:Byt):wsum g F p≤(F.map g).sum:=by
 unfold wsum
 induction F with
 | nil=>exact Nat.le_refl _
 | cons y F ih =>
  simp only [List.map_cons,List.sum_cons];split <;> omega
theorem flat_len2 (F:List Ly):(F.map fun l=>nodes l.Ls).sum=(flat F).length:=by
 induction F with
 | nil=>rfl
 | cons y F ih =>
  rw [List.map_cons,List.sum_cons,ih]
  show nodes y.Ls+_=((y::F).flatMap _).length
  rw [List.flatMap_cons,List.length_append];rfl
theorem ones_len (F:List Ly):(F.map fun _=>1).sum=F.length:=by
 induction F with
 | nil=>rfl
 | cons y F ih=>rw [List.map_cons,List.sum_cons,ih,List.length_cons];omega
set_option maxRecDepth 100000 in
set_option maxHeartbeats 1000000 in
theorem below_any {w : World} {t a b c : Nat} {s : Sl} (h9 : s.m.c = 9) (hS : ∀ W, Below w.heap.size w W → Calls Tryz.prog 60 #[.pointer (some ⟨t, 0, none⟩), hV s.link] W (SndE W a b c)) :
    Calls Tryz.prog 107 #[.pointer (some ⟨t,0,none⟩),slV s] w (SndE w a b c):=by
 obtain ⟨⟨S,Cc⟩,r,v,d,⟨l1,l2⟩⟩:=s
 simp only at h9
 subst h9
 replace hS:=qh hS
 have hbA:=qh ((Below.refl w.heap.size w).alloc (Nat.le_refl _) (.cells #[.int .u64 ((S:Nat):Int),.int .u8 ((9:Nat):Int),.string r,.string v,.bool d,.int .i64 l1,.int .u64 l2] 92))
 go_enter Tryz.func107,Tryz.ntmps107
 go_wp2_with fail
 refine (hS.out _ hbA.out).mono ?_
 rintro z w1 ⟨rfl,hb⟩
 have hB:=qh (hbA.out.trans (hb.mono hbA.out.size))
 clear hb
 go_wp2_with fail
 exact bodyPost_ret (v:=.tuple #[.int .i64 ((a:Nat):Int),.int .i64 ((b:Nat):Int),.int .i64 ((c:Nat):Int),.bool true]) (by simp [results,Tryz.results107,go_sem]) rfl ⟨rfl,hB.out⟩
section
variable {w0 w:World} {T:TS} {Y:List Ly} {C:Cont Str}
theorem MTr.soundN (hn1 : (flat Y).length ≤ 100000000000) (hn2 : Y.length ≤ 100000000000) (hn3 : C.length ≤ 100000000000) : ∀ (n : Nat) (w : World), MTr w0 w T Y C → ∀ l, l ∈ Y → (∀ y, y ∈ Y → l.pre <+: y.pre → y.pre.length ≤ l.pre.length + n) →
    Calls Tryz.prog 60 #[.pointer (some ⟨T.t,0,none⟩),hV l.r] w (SndE w (wsum (fun l=>nodes l.Ls) Y l.pre) (wsum (fun _=>1) Y l.pre) (wsum plainN Y l.pre)):=by
 intro n
 induction n with
 | zero =>
  intro w h l hl hd;have e1:=h.sane.ok.wsum hl (fun l=>nodes l.Ls);have e2:=h.sane.ok.wsum hl (fun _=>1);have e3:=h.sane.ok.wsumP hl;have b1:=wsum_le (fun l=>nodes l.Ls) Y l.pre;have b2:=wsum_le (fun _=>1) Y l.pre;have b3:=wsum_le plainN Y l.pre;have e4:=h.ct.plainC h.sane.ok;rw [wsum_nil] at e4;rw [flat_len2] at b1;rw [ones_len] at b2;rw [e1] at b1 ⊢;rw [e2] at b2 ⊢;rw [e3] at b3 ⊢;refine h.soundW hl _ _ _ (fun W x hx hdp hW=>?_) (fun x hx hdp=>?_) (by omega) (by omega) (by omega)
  ·obtain ⟨l',hl',hp,_⟩:=h.sane.ok.down l hl x hx hdp
   have:=hd l' hl' (by rw [hp];exact List.prefix_append _ _);rw [hp,List.length_append,ube_len] at this;omega
  ·unfold below belowP
   rw [hdp];exact ⟨rfl,rfl,rfl⟩
 | succ n ih =>
  intro w h l hl hd;have e1:=h.sane.ok.wsum hl (fun l=>nodes l.Ls);have e2:=h.sane.ok.wsum hl (fun _=>1);have e3:=h.sane.ok.wsumP hl;have b1:=wsum_le (fun l=>nodes l.Ls) Y l.pre;have b2:=wsum_le (fun _=>1) Y l.pre;have b3:=wsum_le plainN Y l.pre;have e4:=h.ct.plainC h.sane.ok;rw [wsum_nil] at e4;rw [flat_len2] at b1;rw [ones_len] at b2;rw [e1] at b1 ⊢;rw [e2] at b2 ⊢;rw [e3] at b3 ⊢;refine h.soundW hl _ _ _ (fun W x hx hdp hW=>?_) (fun x hx hdp=>?_) (by omega) (by omega) (by omega)
  ·obtain ⟨l',hl',hp,hr⟩:=h.sane.ok.down l hl x hx hdp
   refine below_any ((h.sane.ok.key l hl x hx).2.dp hdp).1 fun W2 hW2=>?_
   have h2:=(h.on (h.am.below hW))
   have:=ih W2 (h2.on (h2.am.below hW2)) l' hl' fun y hy hpy=>by
    have h3:l.pre <+: y.pre:=by
     refine List.IsPrefix.trans ?_ hpy;rw [hp];exact List.prefix_append _ _
    have:=hd y hy h3;rw [hp,List.length_append,ube_len];omega
   rw [hr,hp] at this;unfold below belowP;rw [hdp];exact this
  ·unfold below belowP
   rw [hdp];exact ⟨rfl,rfl,rfl⟩
set_option maxRecDepth 100000 in
set_option maxHeartbeats 1000000 in
theorem MTr.check (h:MTr w0 w T Y C) (hn1:T.F.length≤100000000000) (hn2:Y.length≤100000000000) (hn3:C.length≤100000000000):Calls Tryz.prog 20 #[.pointer (some ⟨T.t,0,none⟩)] w fun e w'=>e=.returned (.bool true)∧Below w.heap.size w w':=by
 obtain ⟨c0,c1,c2,c3,c4,c5,c6,hq⟩:=h.am.cells
 have hNo:=qh (none_ok c1)
 obtain ⟨l,F',hY,hr⟩:=h.ro
 have hl:l∈Y:=by rw [hY];simp
 have hp:l.pre=[]:=by
  obtain ⟨l2,F2,e,hp⟩:=h.sane.ok.root;rw [hY] at e;injection e with e;rw [e];exact hp
 have hfl:(flat Y).length=T.F.length:=by have:=h.fl.length_eq;rw [List.length_map] at this;exact this.symm
 have hLv:=qh fun W (hW:Below w.heap.size w W)=>AMnode.gLive T.d.A [] _ W ((h.am.below hW).bw.ag h.am.hd h.am.ta h.am.tc)
 rw [h.am.len] at hLv
 have hSo:=qh fun W (hW:Below w.heap.size w W)=>MTr.soundN (by rw [hfl];exact hn1) hn2 hn3 1000000 W (h.on (h.am.below hW)) l hl fun y hy _=>by have:=h.sane.pre y hy;omega
 have e4:=h.ct.plainC h.sane.ok
 rw [hp,wsum_nil,wsum_nil,flat_len2,ones_len,hfl,hr,e4] at hSo
 have hly:=h.ly
 have hn:=h.n
 rw [← hly,← hn] at hSo
 obtain ⟨t,ht⟩:∃ x,x=T.t:=⟨_,rfl⟩
 obtain ⟨A,hA⟩:∃ x,x=T.d.A.a:=⟨_,rfl⟩
 obtain ⟨NF,hNF⟩:∃ x,x=T.F.length:=⟨_,rfl⟩
 obtain ⟨n,hn'⟩:∃ x,x=T.n:=⟨_,rfl⟩
 obtain ⟨ly,hly'⟩:∃ x,x=T.ly:=⟨_,rfl⟩
 obtain ⟨r,hr'⟩:∃ x,x=T.r:=⟨_,rfl⟩
 rw [← ht] at c0 c1 c2 c3 c4 c5 c6 hNo hSo hq ⊢
 rw [← hA] at c1 hLv
 rw [← hNF] at hLv hSo
 rw [← hn'] at c4 hSo
 rw [← hly'] at c5 hSo
 rw [← hr'] at c2 c3 hSo
 replace hNF:=qh hNF
 clear h hNF hn' hly' hr' hA ht hly hn e4 hfl hp hl hY hr hn1 hn2 hn3
 unfold hV at hSo
 have hcs:=qh (And.intro c1 (And.intro c4 c5))
 go_enter Tryz.func20,Tryz.ntmps20
 go_wp2_with fail
 refine hNo.out.mono ?_
 rintro e w1 ⟨rfl,rfl⟩
 go_wp2_with fail
 refine (hSo.out _ (Below.refl _ _)).mono ?_
 rintro e w1 ⟨rfl,hb⟩
 clear c0 c1 c2 c3 c4 c5 c6
 obtain ⟨c1,c4,c5⟩:=hcs.out
 replace c1:=keep hb c1
 replace c4:=keep hb c4
 replace c5:=keep hb c5
 replace hb:=qh hb
 go_wp2_with fail
 refine (hLv.out _ hb.out).mono ?_
 rintro e w2 ⟨rfl,hb2⟩
 have hB2:=qh (hb.out.trans (hb2.mono hb.out.size))
 clear c1 c4 c5
 obtain ⟨c1,c4,c5⟩:=hcs.out
 replace c4:=keep hB2.out c4
 replace c5:=keep hB2.out c5
 clear hb2 c1
 go_wp2_with fail
 go_ret
 exact ⟨rfl,hB2.out⟩
end
open Go.Lib
def Pres (P:List Byt) (H:Str→Prop):Prop :=
 ∀ q,q∈P→q=[]∨∃ k1 k2 n,H k1∧H k2∧k1≠k2∧1≤n∧q=(bl k1).take (8*n)∧q=(bl k2).take (8*n)∧8*n < (bl k1).length∧8*n < (bl k2).length
theorem both_pre : ∀ (hs : List Hd) (p a b : Byt) (v w : Str), hs.length = alk a b + 1 → a ≠ [] → b ≠ [] →
    ∀ q,q∈(bothN p a b v w hs).map (·.pre)→∃ j,q=p++a.take (8*j)∧a.take (8*j)=b.take (8*j)∧8*j < a.length∧8*j < b.length
 | [],_,_,_,_,_,h,_,_,_,_=>by simp at h
 | [h0],p,a,b,v,w,h,ha,hb,q,hq=>by
  have:q=p:=by simpa [bothN] using hq
  exact ⟨0,by rw [this];simp,rfl,by simpa using List.length_pos_iff.2 ha,by simpa using List.length_pos_iff.2 hb⟩
 | h0::g::hs,p,a,b,v,w,h,ha,hb,q,hq=>by
  have hst:8 < a.length∧8 < b.length∧a.take 8=b.take 8:=Classical.byContradiction fun hn=>by
   rw [alk_stop hn] at h;simp at h
  have ha8:a.drop 8≠[]:=fun e=>by have:=List.drop_eq_nil_iff.1 e;omega
  have hb8:b.drop 8≠[]:=fun e=>by have:=List.drop_eq_nil_iff.1 e;omega
  have hq':q=p∨q∈(bothN (p++a.take 8) (a.drop 8) (b.drop 8) v w (g::hs)).map (·.pre):=by simpa [bothN] using hq
  rcases hq' with rfl | hq'
  ·exact ⟨0,by simp,rfl,by simpa using List.length_pos_iff.2 ha,by simpa using List.length_pos_iff.2 hb⟩
  ·obtain ⟨j,e1,e2,e3,e4⟩:=both_pre (g::hs) (p++a.take 8) (a.drop 8) (b.drop 8) v w (by rw [alk_step hst] at h;simpa using h) ha8 hb8 q hq'
   rw [List.length_drop] at e3 e4;refine ⟨j+1,?_,?_,by omega,by omega⟩
   ·rw [e1,List.append_assoc,show 8*(j+1)=8+8*j by omega,← List.take_add]
   ·rw [show 8*(j+1)=8+8*j by omega,List.take_add,List.take_add,hst.2.2,e2]
section
variable {F:List Ly} {C:Cont Str} {key k1 k2:Str} {i n:Nat} {l:Ly} {so:Sl} {v v1 v2:Str} {hs:List Hd} {H:Str→Prop}
theorem take_app {p q:Byt} {m:Nat} {a:Byt} (hp:p.length=m) (j:Nat) (h:q=p++a):q.take (m+j)=p++a.take j:=by
 rw [h,← hp,List.take_length_add_append]
theorem pres_new (hm : MOK F) (hc : MCt F C) (ho : On F key i l) (hg : M.cget (content l.Ls) (mT (mkAt key i)) = some so) (hd : so.deep = false) (hr : bl so.rest ≠ keyAt key (i + 1))
    (hl:hs.length=alk (bl so.rest) (keyAt key (i+1))+1):∀ q,q∈(bothN (l.pre++ube 8 so.m.s) (bl so.rest) (keyAt key (i+1)) so.val v hs).map (·.pre) →
    ∃ k' n,(k',so.val)∈C∧k'≠key∧1≤n∧q=(bl k').take (8*n)∧q=(bl key).take (8*n)∧8*n < (bl k').length∧8*n < (bl key).length:=by
 intro q hq
 obtain ⟨e,hso⟩:=hm.slot ho.mem (mkOf_b _) hg
 obtain ⟨_,h9⟩:=hso.pl hd
 have hdr:keyAt key (i+1)=(keyAt key i).drop 8:=by
  show (bl key).drop (8*(i+1))=((bl key).drop (8*i)).drop 8
  rw [List.drop_drop];rfl
 have hc9:so.m.c=9:=Classical.byContradiction fun hn=>by
  have h0:so.rest=s0:=Classical.byContradiction fun hh=>hn (h9.2 hh)
  have h1:(mkOf (keyAt key i)).c=min (keyAt key i).length 9:=rfl;rw [e] at hn
  have h2:(keyAt key i).length≤8:=by
   have:(mkAt key i).c≠9:=hn;have h3:(mkAt key i).c=min (keyAt key i).length 9:=rfl;omega
  refine hr ?_;rw [hdr,List.drop_eq_nil_of_le h2,h0];rfl
 have hrn:bl so.rest≠[]:=fun h0=>h9.1 hc9 (bl_inj (a:=so.rest) (b:=s0) h0)
 have hlen:9≤(keyAt key i).length:=cls9 (by rw [← e];exact hc9)
 have hlk:8*(i+1) < (bl key).length:=by rw [List.length_drop] at hlen;omega
 have hkn:keyAt key (i+1)≠[]:=fun h0=>by have:=List.drop_eq_nil_iff.1 h0;omega
 have hube:ube 8 so.m.s=(keyAt key i).take 8:=by rw [e];exact ube_mk _ (by omega)
 have hT:l.pre++ube 8 so.m.s=(bl key).take (8*(i+1)):=by rw [ho.pre,hube,show 8*(i+1)=8*i+8 by omega,List.take_add]
 have hTl:((bl key).take (8*(i+1))).length=8*(i+1):=by rw [List.length_take];omega
 have hsb:sb so=ube 8 so.m.s++bl so.rest:=by
  unfold sb;rw [hc9,List.take_of_length_le (by rw [ube_len];decide)]
 have hk':bl (bs (l.pre++sb so))=(bl key).take (8*(i+1))++bl so.rest:=by rw [bl_bs,hsb,← List.append_assoc,hT]
 obtain ⟨j,e1,e2,e3,e4⟩:=both_pre hs _ _ _ _ _ hl hrn hkn q hq
 rw [hT] at e1
 have hkk:bl key=(bl key).take (8*(i+1))++keyAt key (i+1):=(List.take_append_drop _ _).symm
 have a1:(bl (bs (l.pre++sb so))).take (8*(i+1)+8*j)=(bl key).take (8*(i+1))++(bl so.rest).take (8*j):=take_app hTl (8*j) hk'
 have a2:(bl key).take (8*(i+1)+8*j)=(bl key).take (8*(i+1))++(keyAt key (i+1)).take (8*j):=take_app hTl (8*j) hkk
 refine ⟨bs (l.pre++sb so),i+1+j,(hc.mem _ _).2 ⟨l,ho.mem,(_,so),(hm.cget ho.mem).1 hg,hd,bl_bs _,rfl⟩,fun h0=>?_,by omega,?_,?_,?_,?_⟩
 ·rw [h0] at hk'
  exact hr (List.append_cancel_left (hkk.symm.trans hk')).symm
 ·rw [e1,show 8*(i+1+j)=8*(i+1)+8*j by omega,a1]
 ·rw [e1,e2,show 8*(i+1+j)=8*(i+1)+8*j by omega,a2]
 ·rw [hk',List.length_append,hTl];omega
 ·have:=e4
  rw [List.length_drop] at this;omega
theorem deep_there (h:MOK F) (hc:MCt F C) (m1:(k1,v1)∈C) (m2:(k2,v2)∈C) (hne:k1≠k2) (e:(bl k1).take (8*n)=(bl k2).take (8*n)) (h1:8*n < (bl k1).length) (h2:8*n < (bl k2).length):∃ l,l∈F∧l.pre=(bl k1).take (8*n):=by
 obtain ⟨i1,l1,s1,o1,g1,d1,b1,_⟩:=hc.at h m1
 obtain ⟨i2,l2,s2,o2,g2,d2,b2,_⟩:=hc.at h m2
 have there:∀ {k:Str} {i:Nat} {l:Ly},On F k i l→n≤i→∃ l,l∈F∧l.pre=(bl k).take (8*n):=fun {k i l} o hn=>by
  rcases Nat.lt_or_ge n i with h3 | h3
  ·obtain ⟨l',_,o',_⟩:=o.chain h n h3
   exact ⟨l',o'.mem,o'.pre⟩
  ·obtain rfl:n=i:=by omega
   exact ⟨l,o.mem,o.pre⟩
 by_cases hi1:n≤i1
 ·exact there o1 hi1
 by_cases hi2:n≤i2
 ·rw [e];exact there o2 hi2
 replace hi1:=Nat.lt_of_not_le hi1
 replace hi2:=Nat.lt_of_not_le hi2
 have hpre:∀ i,i≤n→(bl k1).take (8*i)=(bl k2).take (8*i):=fun i hi=>by
  rw [← take_pre (k:=bl k1) (show 8*i≤8*n by omega),e,take_pre (by omega)]
 have hmk:∀ i,i < n→mkAt k1 i=mkAt k2 i:=fun i hi=>mk_alike ⟨by rw [List.length_drop];omega,by rw [List.length_drop];omega,by
  have:=congrArg (List.drop (8*i)) (hpre (i+1) (by omega));rw [show 8*(i+1)=8*i+8 by omega,List.take_add,List.take_add,List.drop_left' (by rw [List.length_take];omega),List.drop_left' (by rw [List.length_take];omega)] at this
  exact this⟩
 have up1:∀ {i},i≤n→∀ {l},On F k2 i l→On F k1 i l:=fun {i} hi {l} o=>⟨o.mem,o.pre.trans (hpre i hi).symm,by omega⟩
 exfalso
 rcases Nat.lt_trichotomy i1 i2 with hij | hij | hij
 ·obtain ⟨l3,s3,q1,q2,q3⟩:=o2.chain h i1 hij
  rw [(up1 (by omega) q1).uniq h o1,← hmk i1 hi1,g1] at q2;injection q2 with q2;rw [← q2,d1] at q3
  cases q3
 ·subst hij
  have hll:=o1.uniq h (up1 (by omega) o2);rw [← hll,← hmk i1 hi1,g1] at g2;injection g2 with g2;rw [← g2] at b2;refine hne (bl_inj ?_);rw [← List.take_append_drop (8*i1) (bl k1),← List.take_append_drop (8*i1) (bl k2),hpre i1 (by omega)];exact congrArg _ (b1.trans b2.symm)
 ·obtain ⟨l3,s3,q1,q2,q3⟩:=o1.chain h i2 hij
  have q1':On F k2 i2 l3:=⟨q1.mem,q1.pre.trans (hpre i2 (by omega)),by omega⟩;rw [q1'.uniq h o2,hmk i2 hi2,g2] at q2;injection q2 with q2;rw [← q2,d2] at q3
  cases q3
theorem content_marks (h : MOK F) (hc : MCt F C) (hp : Pres (F.map (·.pre)) H) (hH : ∀ p, p ∈ C → H p.1) (hl : l ∈ F) {x : Str × Sl} (hx : x ∈ content l.Ls) :
    ∃ k j,H k∧l.pre.length=8*j∧l.pre=(bl k).take (8*j)∧x.1=mT (mkAt k j)∧(j=0∨8*j < (bl k).length):=by
 obtain ⟨j,hj⟩:=h.eights _ l hl (Nat.le_refl _)
 obtain ⟨hk,hs⟩:=h.key l hl x hx
 cases hd:x.2.deep
 ·have hm:(bs (l.pre++sb x.2),x.2.val)∈C:=(hc.mem _ _).2 ⟨l,hl,x,hx,hd,bl_bs _,rfl⟩
  have hb:bl (bs (l.pre++sb x.2))=l.pre++sb x.2:=bl_bs _
  have e2:keyAt (bs (l.pre++sb x.2)) j=sb x.2:=by
   show (bl _).drop (8*j)=_
   rw [hb,← hj,List.drop_left]
  refine ⟨_,j,hH _ hm,hj,by rw [hb,← hj,List.take_left],?_,?_⟩
  ·rw [hk]
   show _=mT (mkOf (keyAt _ j))
   rw [e2,mk_sb hs hd]
  ·show j=0∨8*j < (bl (bs (l.pre++sb x.2))).length
   rcases Nat.eq_zero_or_pos j with h0 | h0
   ·exact .inl h0
   ·right
    have hne:l.pre≠[]:=fun hh=>by rw [hh] at hj;simp at hj;omega
    have hc0:=h.cls l hl hne x hx;refine Classical.byContradiction fun hh=>hc0 ?_
    have:sb x.2=[]:=by rw [← e2];exact List.drop_eq_nil_iff.2 (by omega)
    have h6:=mk_sb hs hd;rw [this] at h6;rw [← h6];rfl
 ·obtain ⟨l',h1,h2,h3⟩:=h.down l hl x hx hd
  have hl':l'.pre.length=8*(j+1):=by rw [h2,List.length_append,ube_len,hj];omega
  rcases hp l'.pre (List.mem_map.2 ⟨l',h1,rfl⟩) with h0 | ⟨k1,_,n,p1,_,_,_,p2,_,p3,_⟩
  ·rw [h0] at hl';simp at hl'
  ·have hn : n = j + 1 := by
     rw [p2,List.length_take] at hl';omega
   subst hn;have hsp:l.pre++ube 8 x.2.m.s=(bl k1).take (8*j)++(keyAt k1 j).take 8:=by rw [← h2,p2,show 8*(j+1)=8*j+8 by omega,List.take_add]
   obtain ⟨a1,a2⟩:=List.append_inj hsp (by rw [hj,List.length_take];omega);refine ⟨k1,j,p1,hj,a1,?_,.inr (by omega)⟩;rw [hk];have hc:x.2.m.c=9:=(hs.dp hd).1;have hl8:8 < (keyAt k1 j).length:=by rw [List.length_drop];omega
   have e4:(mkAt k1 j).s=x.2.m.s:=by
    show be (pad 8 (keyAt k1 j))=_
    rw [pad_take 8 _ (by omega),← a2,ube_be_le (by simpa using hs.m.s)]
   have e5:(mkAt k1 j).c=x.2.m.c:=by
    rw [hc]
    show min (keyAt k1 j).length 9=9
    omega
   congr 1
   cases hmm:mkAt k1 j
   cases hxx:x.2.m;rw [hmm] at e4 e5;rw [hxx] at e4 e5;simp only at e4 e5;rw [e4,e5]
end
theorem sub_len {α:Type} [DecidableEq α]:∀ {a b:List α},a.Nodup→(∀ x,x∈a→x∈b)→a.length≤b.length
 | [],_,_,_=>Nat.zero_le _
 | x::a,b,h,hs=>by
  obtain ⟨h1,h2⟩:=List.nodup_cons.1 h;have hx:=hs x (by simp);have:=sub_len (b:=b.erase x) h2 fun y hy=>(List.mem_erase_of_ne (fun e=>h1 (by rw [← e];exact hy))).2 (hs y (by simp [hy]))
  rw [List.length_erase_of_mem hx] at this;have:=List.length_pos_of_mem hx;rw [List.length_cons];omega
theorem csort_nodup {β:Type} {C:Cont β} (h:CSort C):(C.map (·.1)).Nodup:=by
 unfold List.Nodup
 rw [List.pairwise_map]
 exact List.Pairwise.imp (fun hab e=>slt_ne hab e) h
section
variable {β:Type}
theorem cont_le {m:Nat}:∀ {S:Lev β},(∀ x,x∈S→x.2.pairs.length≤m)→(cont S).length≤m*S.length
 | [],_=>by simp [cont]
 | x::S,h=>by
  rw [cont_cons,List.length_append,List.length_cons];have:=h x (by simp);have:=cont_le (S:=S) (fun y hy=>h y (by simp [hy]));rw [Nat.mul_add];omega
theorem cont_ge:∀ {S:Lev β},(∀ x,x∈S→2≤x.2.pairs.length)→2*S.length≤(cont S).length
 | [],_=>by simp
 | x::S,h=>by
  rw [cont_cons,List.length_append,List.length_cons];have:=h x (by simp);have:=cont_ge (S:=S) (fun y hy=>h y (by simp [hy]));omega
variable {Ls:List (Lev β)}
theorem Tower.level0 (ht:Tower Ls):∃ S,Ls[0]?=some S∧LevOK true S:=by
 obtain ⟨x,hx⟩:=ht.top
 have hl:=(List.getElem?_eq_some_iff.1 hx).1
 have hS:Ls[0]?=some Ls[0]:=List.getElem?_eq_getElem (by omega)
 exact ⟨_,hS,ht.ok _ _ hS⟩
theorem Tower.le6 (ht:Tower Ls) (hs:Slim Ls):(content Ls).length≤6*leaves Ls:=by
 obtain ⟨S,hS,hok⟩:=ht.level0
 rw [content_of hS,leaves_of hS]
 refine cont_le fun x hx=>?_
 obtain ⟨l,hl⟩:=hok.node hx
 rw [pairs_len hl (hok.lf x hx)]
 exact hs 0 S hS x hx
theorem Tower.ge2 (ht:Tower Ls) (hf:Fat Ls) (h1:2≤leaves Ls):2*leaves Ls≤(content Ls).length:=by
 obtain ⟨S,hS,hok⟩:=ht.level0
 rcases hf with hf | hf
 ·obtain ⟨x,hx⟩:=ht.top
  rw [hf] at hx;rw [leaves_of hx] at h1;simp at h1
 ·rw [content_of hS,leaves_of hS]
  refine cont_ge fun x hx=>?_
  obtain ⟨l,hl⟩:=hok.node hx;rw [pairs_len hl (hok.lf x hx)];exact hf S hS x hx
theorem Tower.one (ht:Tower Ls) (hk:Thick Ls) (hf:Fat Ls) (h:(content Ls).length≤3):nodes Ls=1∧Ls.length=1:=by
 obtain ⟨h1,h2,h3⟩:=ht.size hk
 have h4:leaves Ls≤1:=by
  rcases Nat.lt_or_ge (leaves Ls) 2 with h5 | h5
  ·omega
  ·have:=ht.ge2 hf h5;omega
 have h5:Ls.length - 1 < 1:=(Nat.pow_lt_pow_iff_right (a:=2) (by omega)).1 (by omega)
 obtain ⟨x,hx⟩:=ht.top
 have h6:x∈Ls.flatten.map id:=by
  rw [List.map_id];exact List.mem_flatten.2 ⟨_,List.mem_of_getElem? hx,by simp⟩
 have h7:=List.length_pos_of_mem h6
 rw [List.length_map] at h7
 have h8:0 < nodes Ls:=h7
 exact ⟨by omega,by omega⟩
theorem Tower.three (ht:Tower Ls) (hs:Slim Ls) (h:7≤(content Ls).length):3≤nodes Ls:=by
 have h1:=ht.le6 hs
 obtain ⟨S,hS,hok⟩:=ht.level0
 have h2:=leaves_of hS
 obtain ⟨x,hx⟩:=ht.top
 have hl:=(List.getElem?_eq_some_iff.1 hx).1
 rcases Nat.lt_or_ge 1 Ls.length with h3 | h3
 ·match Ls,hS,hx,h3,h2 with
  | S0::R,hS,hx,h3,h2 =>
   simp only [zg2,Option.some.injEq] at hS;subst hS
   have h4:x∈R.flatten:=List.mem_flatten.2 ⟨[x],List.mem_of_getElem? (i:=R.length - 1) (by
    have:(S0::R).length - 1=(R.length - 1)+1:=by simp at h3 ⊢;omega
    rw [this,zg3] at hx
    exact hx),by simp⟩
   have h5:=List.length_pos_of_mem h4
   show 3≤(S0::R).flatten.length
   rw [List.flatten_cons,List.length_append];omega
 ·have h4:Ls.length - 1=0:=by omega
  rw [h4,hS] at hx;injection hx with hx;rw [hx] at h2;simp at h2;omega
end
open Go.RowKit
def MIs (w0 w:World) (p t:Nat) (C:Cont Str) (c0 k pt:Nat) (Y:List Ly):Prop :=
 ∃ T,MTw w0 w T Y C k pt∧T.t=t∧T.P.1=p∧T.free.length=c0∧T.D.length=1
theorem lvs_nodes:∀ {Y:List Ly},(∀ l,l∈Y→Tower l.Ls∧Thick l.Ls)→(flat Y).length+Y.length≤2*lvs Y
 | [],_=>Nat.zero_le _
 | l::Y,h=>by
  have h1:=lvs_nodes (Y:=Y) fun z hz=>h z (by simp [hz])
  obtain ⟨a,b⟩:=h l (by simp);have h2:=(a.size b).1
  have e1:(flat (l::Y)).length=nodes l.Ls+(flat Y).length:=by
   show ((l::Y).flatMap _).length=_
   rw [List.flatMap_cons,List.length_append];rfl
  have e2:lvs (l::Y)=leaves l.Ls+lvs Y:=by unfold lvs;rw [List.map_cons,List.sum_cons]
  rw [e1,e2,List.length_cons];omega
section
variable {Y Y':List Ly} {C:Cont Str} {key:Str} {H H':Str→Prop}
theorem PutY.pres (h:PutY Y Y' key) (hm:MOK Y) (hc:MCt Y C) (hH:∀ x,H x→H' x) (hC:∀ p,p∈C→H' p.1) (hk:H' key) (hp:Pres (Y.map (·.pre)) H):Pres (Y'.map (·.pre)) H':=by
 have old:Pres (Y.map (·.pre)) H':=fun q hq=>(hp q hq).imp id fun ⟨k1,k2,n,a1,a2,a3⟩=>⟨k1,k2,n,hH _ a1,hH _ a2,a3⟩
 intro q hq
 rcases h.2 with e | ⟨i,l,so,v,hs,ho,hg,hd,hr,hl,e⟩
 ·exact old q (by rw [← e];exact hq)
 ·rw [e,List.mem_append] at hq
  rcases hq with hq | hq
  ·exact old q hq
  ·obtain ⟨k',n,h1,h2,h3,h4,h5,h6,h7⟩:=pres_new hm hc ho hg hd hr hl q hq
   exact .inr ⟨k',key,n,hC _ h1,hk,h2,h3,h4,h5,h6,h7⟩
end
section
variable {w0 w w':World} {T:TS} {Y:List Ly} {C:Cont Str} {c0 k pt p t:Nat} {key v:Str}
theorem MTw.size (h:MTw w0 w T Y C k pt):(flat Y).length≤Y.length+2*k:=by
 have h1:=lvs_nodes fun l hl=>⟨h.wy.ok.tow l hl,h.wy.wb.thk l hl⟩
 have h2:=h.wy.wb.lv
 omega
theorem MTw.flen (h:MTw w0 w T Y C k pt):T.F.length=(flat Y).length:=by have:=h.mf.fl.length_eq;rw [List.length_map] at this;exact this
theorem MIs.below (h:MIs w0 w p t C c0 k pt Y) (hb:Below w.heap.size w w'):MIs w0 w' p t C c0 k pt Y:=by
 obtain ⟨T,a,b⟩:=h
 exact ⟨T,a.on (a.mf.am.below hb),b⟩
theorem MIs.bel (h:MIs w0 w p t C c0 k pt Y):Below w0.heap.size w0 w:=by
 obtain ⟨T,a,b⟩:=h
 exact a.mf.am.bw.ro.bel
theorem MIs.ok (h:MIs w0 w p t C c0 k pt Y):WY Y (Y.length+k) pt∧MCt Y C:=by
 obtain ⟨T,a,b⟩:=h
 exact ⟨a.wy,a.ct⟩
theorem MIs.pos (h:MIs w0 w p t C c0 k pt Y):1≤Y.length∧16*(Y.length - 1)≤pt:=by
 obtain ⟨T,a,b⟩:=h
 obtain ⟨l,F',e,_⟩:=a.ro
 exact ⟨by rw [e];simp,a.yl⟩
theorem MIs.get (h : MIs w0 w p t C c0 k pt Y) (hk : k ≤ 1000) (hpt : pt ≤ 100000) (hks : key.size ≤ 100000000) : Calls Tryz.prog 15 #[.pointer (some ⟨t, 0, none⟩), .string key, .nilFunc] w fun e w' =>
    e=.returned (.tuple #[.string ((M.cget C key).getD s0),.bool (M.cget C key).isSome,.bool false])∧Below w.heap.size w w':=by
 obtain ⟨T,a,rfl,b⟩:=h
 exact (a.tr hk hpt).getB key hks
theorem MIs.next (h : MIs w0 w p t C c0 k pt Y) (hk : k ≤ 1000) (hpt : pt ≤ 100000) (hks : key.size ≤ 100000000) (after : Bool) : Calls Tryz.prog 18 #[.pointer (some ⟨t, 0, none⟩), .string key, .bool after, .nilFunc] w fun e w' =>
    e=.returned (.tuple #[.string (fK (M.cnext C key after)),.string (fX (M.cnext C key after)),.bool (M.cnext C key after).isSome,.bool false])∧Below w.heap.size w w':=by
 obtain ⟨T,a,rfl,b⟩:=h
 exact (a.tr hk hpt).nextB key hks after
theorem MIs.len (h:MIs w0 w p t C c0 k pt Y):Calls Tryz.prog 24 #[.pointer (some ⟨t,0,none⟩)] w fun e w'=>e=.returned (.int .i64 ((C.length:Nat):Int))∧w=w':=by
 obtain ⟨T,a,rfl,b⟩:=h
 have:=a.mf.am.lenC
 rw [a.n] at this
 exact this
theorem MIs.layers (h:MIs w0 w p t C c0 k pt Y):Calls Tryz.prog 27 #[.pointer (some ⟨t,0,none⟩)] w fun e w'=>e=.returned (.int .i64 ((Y.length:Nat):Int))∧w=w':=by
 obtain ⟨T,a,rfl,b⟩:=h
 have:=a.mf.am.layersC
 rw [a.ly] at this
 exact this
theorem MIs.slots (h:MIs w0 w p t C c0 k pt Y):Calls Tryz.prog 25 #[.pointer (some ⟨t,0,none⟩)] w fun e w'=>e=.returned (.int .i64 (((flat Y).length:Nat):Int))∧Below w.heap.size w w':=by
 obtain ⟨T,a,rfl,b⟩:=h
 have:=a.mf.am.slotsC
 rw [a.flen] at this
 exact this
theorem MIs.check (h:MIs w0 w p t C c0 k pt Y) (hk:k≤1000) (hpt:pt≤100000) (hC:C.length≤100000000):Calls Tryz.prog 20 #[.pointer (some ⟨t,0,none⟩)] w fun e w'=>e=.returned (.bool true)∧Below w.heap.size w w':=by
 obtain ⟨T,a,rfl,b⟩:=h
 have h1:=a.size
 have h2:=a.yl
 exact (a.tr hk hpt).check (by rw [a.flen];omega) (by omega) (by omega)
theorem MIs.cnt (h:MIs w0 w p t C c0 k pt Y):∃ T,MTw w0 w T Y C k pt∧T.t=t∧T.P.1=p∧T.free.length=c0∧T.D.length=1∧T.free.count true+(flat Y).length=c0:=by
 obtain ⟨T,a,b,c,d,e⟩:=h
 refine ⟨T,a,b,c,d,e,?_⟩
 have h1:=a.mf.am.cnt
 have h2:=a.mf.am.hd
 have h3:=a.mf.am.len
 rw [a.flen] at h3
 have h4:T.D=[T.d]:=by
  match hD:T.D,e with
  | [x],_ =>
   rw [hD] at h2
   cases hi:T.i with
   | zero=>rw [hi] at h2;simp at h2;rw [h2]
   | succ i=>rw [hi] at h2;simp at h2
 rw [h4] at h1
 simp at h1
 omega
theorem MIs.putAny (h : MIs w0 w p t C c0 k pt Y) (hk : k ≤ 1000) (hpt : pt ≤ 100000) (hks : key.size ≤ 100000) (hC : C.length ≤ 1000000000) :
    Calls Tryz.prog 22 #[.pointer (some ⟨t,0,none⟩),.string key,.string v] w fun e w' =>
     (e=.returned (.tuple #[.string ((M.cget C key).getD s0),.bool (M.cget C key).isSome,.int .i64 0])∧∃ Y',MIs w0 w' p t (cput C key v) c0 (k+1) (pt+key.size) Y'∧EvoY Y Y'∧PutY Y Y' key) ∨
     (e=.returned (.tuple #[.string s0,.bool false,.int .i64 5])∧M.cget C key=none∧MIs w0 w' p t C c0 k pt Y∧∃ n,c0 < n+(flat Y).length∧((n≤15∧∃ l,l∈Y∧n≤l.Ls.length+1)∨(16*(Y.length+n - 1)≤pt+key.size∧n≤1+key.size / 8))):=by
 obtain ⟨T,a,b,c,d,e,f⟩:=h.cnt
 subst b
 refine (a.put hk hpt key v hks hC).mono ?_
 rintro z w' (⟨hz,T',Y',h1,h2,h3,h4⟩ | ⟨hz,h1,⟨n,h2,h3⟩,h4,_⟩)
 ·exact .inl ⟨hz,Y',⟨T',h1,h2.t,by rw [h2.P];exact c,by rw [h2.fl];exact d,by rw [h2.dl];exact e⟩,h3,h4⟩
 ·exact .inr ⟨hz,h1,⟨T,a.on h4,rfl,c,d,e⟩,n,by omega,h3⟩
theorem MIs.new {g f n : Nat} (hb : Below w0.heap.size w0 w) (hp : PoolIs w p g f (List.replicate n 1) (List.replicate n true)) (hl : w0.heap.size ≤ p ∧ w0.heap.size ≤ g ∧ w0.heap.size ≤ f) (hn : 1 ≤ n) :
    Calls Tryz.prog 12 #[.pointer (some ⟨p,0,none⟩)] w fun e w'=>∃ t r,e=.returned (.tuple #[.pointer (some ⟨t,0,none⟩),.int .i64 0])∧MIs w0 w' p t [] n 0 0 [ly0 r]:=by
 have hpg:=hp.2.2.1
 have hpf:=hp.2.2.2.1
 have hgf:=hp.2.2.2.2.1
 have hlp:=heap_lt hp.2.2.2.2.2.1
 have hlg:=heap_lt hp.2.2.2.2.2.2.1
 have hlf:=heap_lt hp.2.2.2.2.2.2.2
 have hro:Ro w0 w (mark (mark (mark (fun _=>0) p 1) g 2) f 3):=by
  refine ⟨hb,fun k hk=>?_,fun k hk=>?_⟩ <;> rw [mark_other (by omega),mark_other (by omega),mark_other (by omega)]
 have hB:BW w0 w (mark (mark (mark (fun _=>0) p 1) g 2) f 3) (p,g,f) (List.replicate n 1) (List.replicate n true) [] :=
  ⟨hro,⟨⟨hp,by rw [mark_other hpf,mark_other hpg,mark_self],by rw [mark_other hgf,mark_self],mark_self⟩,fun i d hd=>by simp at hd⟩⟩
 have hin:true∈List.replicate n true:=List.mem_replicate.2 ⟨by omega,rfl⟩
 refine (mtNew_some hB hin (by simp [List.count_replicate_self])).mono ?_
 rintro e w' ⟨T,r,he,h1,h2,h3,h4,h5,h6,h7,h8⟩
 exact ⟨T.t,r,he,T,h1,rfl,by rw [h2],by rw [h5];simp,h7⟩
end
open Go.Lib
def awK (k:Nat):Str:=⟨#[97,97,97,97,97,97,97,97,UInt8.ofNat (97+k)]⟩
def awV:Str:=⟨#[118]⟩
def awC:Nat→Cont Str
 | 0=>[]
 | k+1=>cput (awC k) (awK k) awV
def awP:Byt:=[97,97,97,97,97,97,97,97]
theorem awC_len:∀ k,k≤8→(awC k).length=k:=by decide
theorem awC_none:∀ k,k < 8→M.cget (awC k) (awK k)=none:=by decide
theorem awC_some:∀ k,k < 8→M.cget (awC 8) (awK k)=some awV:=by decide
theorem awK_bl (k:Nat):bl (awK k)=awP++[UInt8.ofNat (97+k)]:=rfl
theorem awK_take (k:Nat):(bl (awK k)).take 8=awP:=rfl
theorem awK_inj:∀ i,i < 8→∀ j,j < 8→awK i=awK j→i=j:=by decide
def awH (k:Nat) (x:Str):Prop:=∃ i,i < k∧x=awK i
theorem awC_mem:∀ {k:Nat} {p:Str×Str},p∈awC k→awH k p.1
 | 0,p,h=>by cases h
 | k+1,p,h=>by
  unfold awC cput at h;simp only [List.mem_append,List.mem_cons,List.mem_filter] at h
  have old:p∈awC k→awH (k+1) p.1:=fun h=>by
   obtain ⟨i,h1,h2⟩:=awC_mem h;exact ⟨i,by omega,h2⟩
  rcases h with ⟨h,_⟩ | rfl | ⟨h,_⟩
  ·exact old h
  ·exact ⟨k,by omega,rfl⟩
  ·exact old h
def AwY (k:Nat) (Y:List Ly):Prop:=(∀ l,l∈Y→Fat l.Ls)∧Pres (Y.map (·.pre)) (awH k)
def nds (Y:List Ly):Nat:=(Y.map fun l=>nodes l.Ls).sum
theorem nds_cons (l:Ly) (Y:List Ly):nds (l::Y)=nodes l.Ls+nds Y:=by
 unfold nds
 rw [List.map_cons,List.sum_cons]
section
variable {Y:List Ly} {k lv pt:Nat}
theorem AwY.pre (h:AwY k Y) {l:Ly} (hl:l∈Y):l.pre=[]∨l.pre=awP:=by
 rcases h.2 l.pre (List.mem_map.2 ⟨l,hl,rfl⟩) with h0 | ⟨k1,_,n,⟨i,_,rfl⟩,_,_,h1,h2,_,h3,_⟩
 ·exact .inl h0
 ·right
  rw [awK_bl] at h3;have h4:(awP++[UInt8.ofNat (97+i)]).length=9:=rfl;obtain rfl:n=1:=by omega
  rw [h2];exact awK_take i
theorem AwY.con (h:AwY k Y) (hw:WY Y lv pt) (hc:MCt Y (awC k)) {l:Ly} (hl:l∈Y):(content l.Ls).length≤k∧(l.pre=[]→(content l.Ls).length≤1):=by
 obtain ⟨j,hj⟩:=hw.ok.eights _ l hl (Nat.le_refl _)
 have hnd:=csort_nodup (hw.ok.srt hl)
 have hm:∀ x,x∈(content l.Ls).map (·.1)→∃ i,i < k∧x=mT (mkAt (awK i) j):=fun x hx=>by
  obtain ⟨y,hy,rfl⟩:=List.mem_map.1 hx;obtain ⟨q,j',⟨i,hi,rfl⟩,h2,_,h3,_⟩:=content_marks hw.ok hc h.2 (fun p hp=>awC_mem hp) hl hy;obtain rfl:j'=j:=by omega
  exact ⟨i,hi,h3⟩
 refine ⟨?_,fun h0=>?_⟩
 ·have := sub_len (b := (List.range k).map fun i => mT (mkAt (awK i) j)) hnd fun x hx => by
    obtain ⟨i,hi,e⟩:=hm x hx;exact List.mem_map.2 ⟨i,List.mem_range.2 hi,e.symm⟩
  simpa using this
 ·have hj0:j=0:=by rw [h0] at hj;simp at hj;omega
  subst hj0
  have:=sub_len (b:=[mT (mkAt (awK 0) 0)]) hnd fun x hx=>by
   obtain ⟨i,hi,e⟩:=hm x hx;rw [e,List.mem_singleton];exact congrArg mT (mk_alike ⟨by show 8 < (bl (awK i)).length;rw [awK_bl];exact Nat.le_refl 9,by decide,rfl⟩)
  simpa using this
theorem AwY.form (h:AwY k Y) (hw:WY Y lv pt) (hc:MCt Y (awC k)):∃ l F',Y=l::F'∧l.pre=[]∧nodes l.Ls=1∧l.Ls.length=1∧(F'=[]∨∃ l2,F'=[l2]∧l2.pre=awP∧(content l2.Ls).length≤k):=by
 obtain ⟨l,F',rfl,hp⟩:=hw.ok.root
 obtain ⟨h1,h2⟩:=(hw.ok.tow l (by simp)).one (hw.wb.thk l (by simp)) (h.1 l (by simp)) (by have:=(h.con hw hc (l:=l) (by simp)).2 hp;omega)
 refine ⟨l,F',rfl,hp,h1,h2,?_⟩
 have hnd:=hw.ok.pre
 rw [List.map_cons,List.nodup_cons] at hnd
 match F',hnd with
 | [],_=>exact .inl rfl
 | [l2],hnd =>
  refine .inr ⟨l2,rfl,?_,(h.con hw hc (l:=l2) (by simp)).1⟩;exact (h.pre (l:=l2) (by simp)).resolve_left fun h0=>hnd.1 (by rw [hp,← h0];simp)
 | l2::l3::F2,hnd =>
  have e2:=(h.pre (l:=l2) (by simp)).resolve_left fun h0=>hnd.1 (by rw [hp,← h0];simp)
  have e3:=(h.pre (l:=l3) (by simp)).resolve_left fun h0=>hnd.1 (by rw [hp,← h0];simp)
  have:=(List.nodup_cons.1 hnd.2).1;simp only [List.map_cons,e2,e3] at this;simp at this
theorem AwY.room (h:AwY k Y) (hw:WY Y lv pt) (hc:MCt Y (awC k)) (hk:k≤7) {n:Nat} (hn:9 < n+nds Y) (ho:(n≤15∧∃ l,l∈Y∧n≤l.Ls.length+1)∨n≤2):False:=by
 obtain ⟨l,F',rfl,hp,h1,h2,h3⟩:=h.form hw hc
 rw [nds_cons,h1] at hn
 rcases h3 with rfl | ⟨l2,rfl,hp2,h4⟩
 ·have e:nds []=0:=rfl
  rw [e] at hn;rcases ho with ⟨_,l',hl,h5⟩ | h5
  ·rw [List.mem_singleton.1 hl,h2] at h5
   omega
  ·omega
 ·have e:nds []=0:=rfl
  rw [nds_cons,e] at hn;obtain ⟨g1,g2,g3⟩:=(hw.ok.tow l2 (by simp)).size (hw.wb.thk l2 (by simp))
  have g4:leaves l2.Ls≤3:=by
   rcases Nat.lt_or_ge (leaves l2.Ls) 2 with h5 | h5
   ·omega
   ·have:=(hw.ok.tow l2 (by simp)).ge2 (h.1 l2 (by simp)) h5;omega
  have g5:l2.Ls.length - 1 < 2:=(Nat.pow_lt_pow_iff_right (a:=2) (by omega)).1 (by omega);rcases ho with ⟨_,l',hl,h5⟩ | h5
  ·simp only [List.mem_cons,List.not_mem_nil,or_false] at hl
   rcases hl with rfl | rfl <;> omega
  ·omega
theorem AwY.fin (h:AwY 8 Y) (hw:WY Y lv pt) (hc:MCt Y (awC 8)):Y.length=2∧3 < nds Y:=by
 obtain ⟨l,F',rfl,hp,h1,h2,h3⟩:=h.form hw hc
 have hin:∀ i,i < 8→(awK i,awV)∈awC 8:=fun i hi=>(cget_iff hc.srt).1 (awC_some i hi)
 obtain ⟨l2,hl2,hp2⟩:=deep_there (n:=1) hw.ok hc (hin 0 (by omega)) (hin 1 (by omega)) (by decide) rfl (by decide) (by decide)
 have hp3:l2.pre=awP:=hp2
 rcases h3 with rfl | ⟨l3,rfl,hp4,h4⟩
 ·rw [List.mem_singleton.1 hl2,hp] at hp3
  cases hp3
 ·simp only [List.mem_cons,List.not_mem_nil,or_false] at hl2
  rcases hl2 with rfl | rfl
  ·rw [hp] at hp3;cases hp3
  ·refine ⟨rfl,?_⟩
   have hsl:8≤(content l2.Ls).length:=by
    have hmm:∀ i,i < 8→mT (mkAt (awK i) 1)∈(content l2.Ls).map (·.1):=fun i hi=>by
     obtain ⟨j,l',s,o,g,d,_⟩:=hc.at hw.ok (hin i hi);have o2:On [l,l2] (awK i) 1 l2:=⟨by simp,hp3.trans (awK_take i).symm,.inr (by show 8*1 < (bl (awK i)).length;rw [awK_bl];exact Nat.le_refl 9)⟩
     have hj:j=0∨j=1:=by
      rcases o.lt with h0 | h0
      ·exact .inl h0
      ·rw [awK_bl] at h0
       have h9:(awP++[UInt8.ofNat (97+i)]).length=9:=rfl;omega
     rcases hj with rfl | rfl
     ·obtain ⟨l3,s3,q1,q2,q3⟩:=o2.chain hw.ok 0 (by omega)
      rw [q1.uniq hw.ok o,g] at q2;injection q2 with q2;rw [← q2,d] at q3
      cases q3
     ·rw [o.uniq hw.ok o2] at g
      exact List.mem_map.2 ⟨_,(hw.ok.cget (by simp)).1 g,rfl⟩
    have hnd:((List.range 8).map fun i=>mT (mkAt (awK i) 1)).Nodup:=by
     unfold List.Nodup;rw [List.pairwise_map];refine List.Pairwise.imp_of_mem (fun {a b} ha hb hab=>?_) (List.nodup_range (n:=8));intro e;have e2:=mT_inj (mkOf_b _) (mkOf_b _) e;rcases mk_eq e2 with e3 | ⟨e3,_⟩
     ·refine hab (awK_inj a (by simpa using ha) b (by simpa using hb) (bl_inj ?_))
      have e4:[UInt8.ofNat (97+a)]=[UInt8.ofNat (97+b)]:=e3;rw [awK_bl,awK_bl,e4]
     ·have:(keyAt (awK a) 1).length=1:=rfl
      omega
    have:=sub_len hnd (b:=(content l2.Ls).map (·.1)) fun x hx=>by
     obtain ⟨i,hi,rfl⟩:=List.mem_map.1 hx;exact hmm i (List.mem_range.1 hi)
    simpa using this
   have:=(hw.ok.tow l2 (by simp)).three (hw.wb.slim l2 (by simp)) (by omega);rw [nds_cons,nds_cons,h1];omega
end
open Go.RowKit
theorem nds_flat:∀ Y:List Ly,(flat Y).length=nds Y
 | []=>rfl
 | l::Y=>by
  have e1:(flat (l::Y)).length=nodes l.Ls+(flat Y).length:=by
   show ((l::Y).flatMap _).length=_
   rw [List.flatMap_cons,List.length_append];rfl
  rw [e1,nds_cons,nds_flat Y]
def AwI (w0 w:World) (p t k:Nat):Prop:=∃ Y,MIs w0 w p t (awC k) 9 k (9*k) Y∧AwY k Y
section
variable {w0 w w':World} {p t k:Nat}
theorem AwI.below (h:AwI w0 w p t k) (hb:Below w.heap.size w w'):AwI w0 w' p t k:=by
 obtain ⟨Y,h1,h2⟩:=h
 exact ⟨Y,h1.below hb,h2⟩
theorem AwI.put (h : AwI w0 w p t k) (hk : k < 8) : Calls Tryz.prog 22 #[.pointer (some ⟨t, 0, none⟩), .string (awK k), .string awV] w fun e w' =>
    e=.returned (.tuple #[.string s0,.bool false,.int .i64 0])∧AwI w0 w' p t (k+1):=by
 obtain ⟨Y,h1,h2,h3⟩:=h
 have hs9:(awK k).size=9:=rfl
 obtain ⟨hw,hc⟩:=h1.ok
 refine (h1.putAny (by omega) (by omega) (by omega) (by rw [awC_len k (by omega)];omega)).mono ?_
 rw [awC_none k hk,hs9]
 rintro e w' (⟨he,Y',q1,q2,q3⟩ | ⟨_,_,_,n,h4,h5⟩)
 ·refine ⟨he,Y',by rw [show 9*(k+1)=9*k+9 by omega];exact q1,q3.1 h2,q3.pres hw.ok hc (H':=awH (k+1)) (fun x ⟨i,hi,e⟩=>⟨i,by omega,e⟩) (fun q hq=>?_) ⟨k,by omega,rfl⟩ h3⟩
  obtain ⟨i,hi,e⟩:=awC_mem hq;exact ⟨i,by omega,e⟩
 ·rw [nds_flat] at h4
  have h6:=h1.pos.1;exact (AwY.room ⟨h2,h3⟩ hw hc (by omega) h4 (h5.imp id fun h=>by omega)).elim
theorem AwI.fin (h:AwI w0 w p t 8):∃ Y,MIs w0 w p t (awC 8) 9 8 72 Y∧Y.length=2∧3 < (flat Y).length:=by
 obtain ⟨Y,h1,h2⟩:=h
 obtain ⟨hw,hc⟩:=h1.ok
 exact ⟨Y,h1,by rw [nds_flat];exact h2.fin hw hc⟩
end
def awB (k:Nat):Str:=⟨#[UInt8.ofNat (97+k)]⟩
set_option maxRecDepth 100000 in
set_option maxHeartbeats 2000000 in
theorem awake15_any (w:World):Calls Tryz.prog 10 #[] w fun e w'=>e=.returned (.bool true)∧Below w.heap.size w w':=by
 go_enter Tryz.func10,Tryz.ntmps10
 go_wp2_with fail
 refine (show Calls Tryz.prog 11 #[.int .i64 9] w _ from arNewPool_some 9 w (by decide) (by decide)).mono ?_
 rintro e w1 ⟨p,g,f,rfl,hB1,hp1,hg1,hf1,hP1⟩
 have hNw:=qh (MIs.new (w0:=w) hB1 hP1 ⟨hp1,hg1,hf1⟩ (by decide))
 clear hP1 hB1
 go_wp2_with fail
 refine hNw.out.mono ?_
 clear hNw
 rintro e w2 ⟨t,r,rfl,hT⟩
 have hT:Hid (AwI w w2 p t 0):=qh ⟨_,hT,fun l hl=>by rw [List.mem_singleton.1 hl];exact .inl rfl,fun q hq=>.inl (by simpa [ly0] using hq)⟩
 go_wp2_with fail
 go_loopg [5] 8 (fun gk v wr=>∃ k:Nat,gk=8 - k∧k≤8∧v=.int .i64 k∧AwI w wr p t k)
 case atStart=>exact ⟨0,rfl,by omega,rfl,hT.out⟩
 case round =>
  clear hT;obtain ⟨k,rfl,hk,rfl,hT⟩:=hrel;by_cases hlt:k < 8
  ·have hw1:IntKind.i64.wrap (97+(k:Int))=97+(k:Int):=IntWalk.i64_in _ (by omega)
   have hw2:IntKind.u8.wrap (97+(k:Int))=97+(k:Int):=by simp [IntKind.wrap,IntKind.bits,IntKind.signed];omega
   have hcv:(convert 23 9 (.slice (some ⟨wr.heap.size,0,none⟩) 1 1)).run Tryz.prog (wr.alloc (.cells #[.int .u8 (97+(k:Int))] 5))=.ok (.string (awB k)) (wr.alloc (.cells #[.int .u8 (97+(k:Int))] 5)):=by
    refine run_convert_bytes_back (P:=Tryz.prog) (wr.alloc (.cells #[.int .u8 (97+(k:Int))] 5)) 23 9 5 ⟨wr.heap.size,0,none⟩ 1 [UInt8.ofNat (97+k)] Tryz.underlying23 Tryz.underlying5 Tryz.underlying9 (fun j hj=>?_);simp at hj;subst hj
    show (wr.alloc _).cell? ⟨wr.heap.size,0,none⟩=_
    rw [cell_of_heap (heap_alloc_new _ _)];simp;omega
   have hPu:=qh ((hT.below ((Below.refl wr.heap.size wr).alloc (Nat.le_refl _) (.cells #[.int .u8 (97+(k:Int))] 5))).put hlt);replace hT:=qh hT;have hcat:(ByteArray.mk #[97,97,97,97,97,97,97,97])++awB k=awK k:=rfl;go_wp2_with fail;refine hPu.out.mono ?_;clear hPu hcv;rintro z w4 ⟨rfl,hT4⟩;replace hT4:=qh hT4;go_wp2_with fail;go_roundg (8 - (k+1))
   case rel=>exact ⟨k+1,rfl,by omega,by go_num,hT4.out⟩
   case measure=>omega
  ·obtain rfl:k=8:=by omega
   obtain ⟨Y,hM,hY2,hF4⟩:=hT.fin;have hal:=awC_len 8 (by decide);have hG:=qh (hM.get (key:=awK 4) (by omega) (by omega) (by decide));rw [awC_some 4 (by omega)] at hG;have hLe:=qh fun W (hW:Below wr.heap.size wr W)=>(hM.below hW).len
   have hLy:=qh fun W (hW:Below wr.heap.size wr W)=>(hM.below hW).layers
   have hSl:=qh fun W (hW:Below wr.heap.size wr W)=>(hM.below hW).slots
   have hCh:=qh fun W (hW:Below wr.heap.size wr W)=>(hM.below hW).check (by omega) (by omega) (by omega)
   have hbel:=qh hM.bel;rw [hal] at hLe;rw [hY2] at hLy;obtain ⟨n,hn⟩:∃ n,n=(flat Y).length:=⟨_,rfl⟩;rw [← hn] at hSl hF4;have hv:ByteArray.toList awV=[118]:=by rw [ByteArray.toList_eq];rfl
   have hn4:decide ((3:Int) < (n:Int))=true:=by rw [decide_eq_true_iff];omega
   have hn5:decide (3 < n)=true:=by rw [decide_eq_true_iff];omega
   clear hM hY2 hn hal hT;go_wp2_with fail;refine (show Calls _ _ _ _ _ from hG.out).mono ?_;clear hG;rintro z w3 ⟨rfl,hb3⟩;replace hb3:=qh hb3;go_wp2_with fail;refine (hLe.out _ hb3.out).mono ?_;rintro z w4 ⟨rfl,rfl⟩;go_wp2_with fail;refine (hLy.out _ hb3.out).mono ?_;rintro z w4 ⟨rfl,rfl⟩;go_wp2_with fail;refine (hSl.out _ hb3.out).mono ?_;rintro z w5 ⟨rfl,hb5⟩;have hb35:=qh (hb3.out.trans (hb5.mono hb3.out.size));clear hb5;go_wp2_with fail;refine (hCh.out _ hb35.out).mono ?_;rintro z w6 ⟨rfl,hb6⟩;have hb36:=qh (hb35.out.trans (hb6.mono hb35.out.size));clear hb6;go_wp2_with fail;go_ret;exact ⟨by simp,hbel.out.trans (hb36.out.mono hbel.out.size)⟩
open Go.Lib
def knA:Str:=⟨#[97,97,97,97,97,97,97,97]⟩
def knX:Str:=⟨#[97,97,97,97,97,97,97,97,120]⟩
def knY:Str:=⟨#[97,97,97,97,97,97,97,97,121]⟩
def kn1:Str:=⟨#[97,97,97,97,97,97,97,97,97,97,97,97,97,97,97,97,49]⟩
def kn2:Str:=⟨#[97,97,97,97,97,97,97,97,97,97,97,97,97,97,97,97,50]⟩
def knV (n:UInt8):Str:=⟨#[n]⟩
def wantL (H:List Str):List Byt:=(([]:Byt)::(H.flatMap fun k1=>H.flatMap fun k2=>(List.range 3).flatMap fun n =>
 if k1≠k2∧1≤n∧(bl k1).take (8*n)=(bl k2).take (8*n)∧8*n < (bl k1).length∧8*n < (bl k2).length then [(bl k1).take (8*n)] else [])).eraseDups
def marksL (H:List Str) (j:Nat):List Byt:=((H.filter fun k=>decide (j=0∨8*j < (bl k).length)).map fun k=>bl (mT (mkAt k j))).eraseDups
theorem wantL_mem {H:List Str} {q:Byt} (h:q∈wantL H):q=[]∨∃ k1 k2 n,k1∈H∧k2∈H∧k1≠k2∧1≤n∧q=(bl k1).take (8*n)∧q=(bl k2).take (8*n)∧8*n < (bl k1).length∧8*n < (bl k2).length:=by
 unfold wantL at h
 rw [List.mem_eraseDups,List.mem_cons] at h
 rcases h with h | h
 ·exact .inl h
 ·right
  obtain ⟨k1,h1,h⟩:=List.mem_flatMap.1 h;obtain ⟨k2,h2,h⟩:=List.mem_flatMap.1 h;obtain ⟨n,h3,h⟩:=List.mem_flatMap.1 h;split at h
  ·rename_i hc
   obtain ⟨a,b,c,d,e⟩:=hc;rw [List.mem_singleton] at h;exact ⟨k1,k2,n,h1,h2,a,b,h,h.trans c,d,e⟩
  ·cases h
theorem mem_wantL {H:List Str} (hz:∀ k,k∈H→(bl k).length≤23) {k1 k2:Str} {n:Nat} (h1:k1∈H) (h2:k2∈H) (a:k1≠k2) (b:1≤n) (c:(bl k1).take (8*n)=(bl k2).take (8*n)) (d:8*n < (bl k1).length) (e:8*n < (bl k2).length):(bl k1).take (8*n)∈wantL H:=by
 unfold wantL
 rw [List.mem_eraseDups,List.mem_cons]
 right
 refine List.mem_flatMap.2 ⟨k1,h1,List.mem_flatMap.2 ⟨k2,h2,List.mem_flatMap.2 ⟨n,List.mem_range.2 (by have:=hz k1 h1;omega),?_⟩⟩⟩
 rw [if_pos ⟨a,b,c,d,e⟩]
 simp
theorem nil_wantL (H:List Str):([]:Byt)∈wantL H:=by
 unfold wantL
 rw [List.mem_eraseDups]
 simp
section
variable {Y:List Ly} {C:Cont Str} {H:List Str} {lv pt:Nat}
theorem kn_len (hw:WY Y lv pt) (hc:MCt Y C) (hp:Pres (Y.map (·.pre)) (·∈H)) (hH:∀ k,k∈H→∃ v,(k,v)∈C) (hz:∀ k,k∈H→(bl k).length≤23) (hn:(wantL H).Nodup):Y.length=(wantL H).length:=by
 have e1:Y.length=(Y.map (·.pre)).length:=by rw [List.length_map]
 refine Nat.le_antisymm ?_ ?_
 ·rw [e1]
  refine sub_len hw.ok.pre fun q hq=>?_
  rcases hp q hq with rfl | ⟨k1,k2,n,a1,a2,a3,a4,a5,a6,a7,a8⟩
  ·exact nil_wantL H
  ·rw [a5]
   exact mem_wantL hz a1 a2 a3 a4 (a5.symm.trans a6) a7 a8
 ·rw [e1]
  refine sub_len hn fun q hq=>?_
  rcases wantL_mem hq with rfl | ⟨k1,k2,n,a1,a2,a3,a4,a5,a6,a7,a8⟩
  ·obtain ⟨l,F',e,hl⟩:=hw.ok.root
   rw [e,← hl];simp
  ·obtain ⟨v1,m1⟩:=hH k1 a1
   obtain ⟨v2,m2⟩:=hH k2 a2;obtain ⟨l,hl,hlp⟩:=deep_there hw.ok hc m1 m2 a3 (a5.symm.trans a6) a7 a8;rw [a5,← hlp];exact List.mem_map.2 ⟨l,hl,rfl⟩
theorem kn_con (hw:WY Y lv pt) (hc:MCt Y C) (hp:Pres (Y.map (·.pre)) (·∈H)) (hC:∀ p,p∈C→p.1∈H) (hz:∀ k,k∈H→(bl k).length≤23) (hm:(marksL H 0).length≤3∧(marksL H 1).length≤3∧(marksL H 2).length≤3) {l:Ly} (hl:l∈Y):(content l.Ls).length≤3:=by
 obtain ⟨j,hj⟩:=hw.ok.eights _ l hl (Nat.le_refl _)
 have hnd:=csort_nodup (hw.ok.srt hl)
 have hmk:∀ x,x∈(content l.Ls).map (·.1)→∃ k,k∈H∧x=mT (mkAt k j)∧(j=0∨8*j < (bl k).length):=fun x hx=>by
  obtain ⟨y,hy,rfl⟩:=List.mem_map.1 hx;obtain ⟨k,j',a1,a2,_,a3,a4⟩:=content_marks hw.ok hc hp hC hl hy;obtain rfl:j'=j:=by omega
  exact ⟨k,a1,a3,a4⟩
 have hnd2:(((content l.Ls).map (·.1)).map bl).Nodup:=by
  unfold List.Nodup;rw [List.pairwise_map];exact List.Pairwise.imp (fun hab e=>hab (bl_inj e)) hnd
 have hle:=sub_len (b:=marksL H j) hnd2 fun x hx=>by
  obtain ⟨z,hz1,rfl⟩:=List.mem_map.1 hx;obtain ⟨k,a1,a2,a3⟩:=hmk z hz1;unfold marksL;rw [List.mem_eraseDups];exact List.mem_map.2 ⟨k,List.mem_filter.2 ⟨a1,by simpa using a3⟩,by rw [a2]⟩
 rw [List.length_map,List.length_map] at hle
 obtain ⟨m0,m1,m2⟩:=hm
 match j,hle,hmk with
 | 0,hle,_=>omega
 | 1,hle,_=>omega
 | 2,hle,_=>omega
 | j+3,_,hmk =>
  cases hcc:content l.Ls with
  | nil=>simp
  | cons x X =>
   obtain ⟨k,a1,_,a3⟩:=hmk x.1 (by rw [hcc];simp);have:=hz k a1;omega
theorem kn_nds (hw:WY Y lv pt) (hf:∀ l,l∈Y→Fat l.Ls) (h3:∀ l,l∈Y→(content l.Ls).length≤3):nds Y=Y.length∧∀ l,l∈Y→l.Ls.length=1:=by
 have h1:∀ l,l∈Y→nodes l.Ls=1∧l.Ls.length=1:=fun l hl=>(hw.ok.tow l hl).one (hw.wb.thk l hl) (hf l hl) (h3 l hl)
 refine ⟨?_,fun l hl=>(h1 l hl).2⟩
 have:∀ Z:List Ly,(∀ l,l∈Z→nodes l.Ls=1)→nds Z=Z.length:=by
  intro Z
  induction Z with
  | nil=>intro _;rfl
  | cons z Z ih =>
   intro h;rw [nds_cons,h z (by simp),ih fun l hl=>h l (by simp [hl]),List.length_cons];omega
 exact this Y fun l hl=>(h1 l hl).1
end
open Go.RowKit
structure KnI (w0 w:World) (p tt bx:Nat) (H:List Str) (C:Cont Str) (k pt:Nat) (fat:Bool) (T:TS) (Y:List Ly):Prop where
 m:MTw w0 w T Y C k pt
 t:T.t=tt
 p:T.P.1=p
 c:T.free.length=10
 d:T.D.length=1
 rx:T.ρ bx=9
 bx:w.heap[bx]?=some (.cells #[.pointer (some ⟨tt,0,none⟩)] 31)
 pr:Pres (Y.map (·.pre)) (·∈H)
 hC:∀ q,q∈C→q.1∈H
 ft:fat=true→∀ l,l∈Y→Fat l.Ls
structure KnH (H:List Str) (C:Cont Str) (n:Nat):Prop where
 hz:∀ k,k∈H→(bl k).length≤23
 hH:∀ k,k∈H→∃ v,(k,v)∈C
 mks:(marksL H 0).length≤3∧(marksL H 1).length≤3∧(marksL H 2).length≤3
 wl:(wantL H).length=n
 nd:(wantL H).Nodup
section
variable {w0 w w':World} {p t bx k pt:Nat} {H:List Str} {C:Cont Str} {fat:Bool} {T:TS} {Y:List Ly} {n:Nat}
theorem KnI.is (h:KnI w0 w p t bx H C k pt fat T Y):MIs w0 w p t C 10 k pt Y:=⟨T,h.m,h.t,h.p,h.c,h.d⟩
theorem KnI.below (h:KnI w0 w p t bx H C k pt fat T Y) (hb:Below w.heap.size w w'):KnI w0 w' p t bx H C k pt fat T Y :=
 ⟨h.m.on (h.m.mf.am.below hb),h.t,h.p,h.c,h.d,h.rx,Below.heap' hb h.bx,h.pr,h.hC,h.ft⟩
theorem KnI.cell (h:KnI w0 w p t bx H C k pt fat T Y):w.cell? ⟨bx,0,none⟩=some (.pointer (some ⟨t,0,none⟩))∧bx < w.heap.size:=⟨by rw [cell_of_heap h.bx];rfl,heap_lt h.bx⟩
theorem KnI.bel (h:KnI w0 w p t bx H C k pt fat T Y):Below w0.heap.size w0 w:=h.m.mf.am.bw.ro.bel
theorem KnI.sizes (h:KnI w0 w p t bx H C k pt true T Y) (hn:KnH H C n):Y.length=n∧(flat Y).length=n∧∀ l,l∈Y→l.Ls.length=1:=by
 have h1:=kn_len h.m.wy h.m.ct h.pr hn.hH hn.hz hn.nd
 obtain ⟨h2,h3⟩:=kn_nds h.m.wy (h.ft rfl) fun l hl=>kn_con h.m.wy h.m.ct h.pr h.hC hn.hz hn.mks hl
 rw [nds_flat,h2,h1,hn.wl]
 exact ⟨rfl,rfl,h3⟩
theorem KnI.layers (h:KnI w0 w p t bx H C k pt true T Y) (hn:KnH H C n):Calls Tryz.prog 27 #[.pointer (some ⟨t,0,none⟩)] w fun e w'=>e=.returned (.int .i64 (n:Int))∧w=w':=by
 have:=h.is.layers
 rw [(h.sizes hn).1] at this
 exact this
theorem KnI.slots (h:KnI w0 w p t bx H C k pt true T Y) (hn:KnH H C n):Calls Tryz.prog 25 #[.pointer (some ⟨t,0,none⟩)] w fun e w'=>e=.returned (.int .i64 (n:Int))∧Below w.heap.size w w':=by
 have:=h.is.slots
 rw [(h.sizes hn).2.1] at this
 exact this
theorem KnI.turn {T':TS} (h:KnI w0 w p t bx H C k pt fat T Y) (hev:TEv w w' T T'):T'.t=t∧T'.P.1=p∧T'.free.length=10∧T'.D.length=1∧T'.ρ bx=9∧w'.heap[bx]?=some (.cells #[.pointer (some ⟨t,0,none⟩)] 31) :=
 ⟨hev.t.trans h.t,by rw [hev.P];exact h.p,hev.fl.trans h.c,hev.dl.trans h.d,by rw [hev.ru.role _ (heap_lt h.bx)];exact h.rx,hev.ru.heap h.bx (by rw [h.rx];simp;omega)⟩
theorem KnI.put (h : KnI w0 w p t bx H C k pt true T Y) (hn : KnH H C n) (hn3 : n ≤ 3) (hk : k ≤ 10) (hpt : pt ≤ 200) (key v : Str) (hks : key.size ≤ 17) (hCl : C.length ≤ 100) :
    Calls Tryz.prog 22 #[.pointer (some ⟨t,0,none⟩),.string key,.string v] w fun e w'=>e=.returned (.tuple #[.string ((M.cget C key).getD s0),.bool (M.cget C key).isSome,.int .i64 0]) ∧
     ∃ T' Y',KnI w0 w' p t bx (key::H) (cput C key v) (k+1) (pt+key.size) true T' Y':=by
 obtain ⟨z1,z2,z3⟩:=h.sizes hn
 have hcn:=h.is.cnt
 have hfc:T.free.count true+n=10:=by
  have a1:=h.m.mf.am.cnt;have a2:=h.m.mf.am.hd;have a3:=h.m.mf.am.len;rw [h.m.flen] at a3;have hd:=h.d;have a5:=h.c
  have a4:T.D=[T.d]:=by
   match hD:T.D,hd with
   | [x],_ =>
    rw [hD] at a2
    cases hi:T.i with
    | zero=>rw [hi] at a2;simp at a2;rw [a2]
    | succ i=>rw [hi] at a2;simp at a2
  rw [a4] at a1;simp at a1;omega
 have:=h.m.put (by omega) (by omega) key v (by omega) (by omega)
 rw [h.t] at this
 refine this.mono ?_
 rintro e w' (⟨he,T',Y',q1,q2,_,q4⟩ | ⟨_,_,⟨m,q2,q3⟩,_⟩)
 ·obtain ⟨b1,b2,b3,b4,b5,b6⟩:=h.turn q2
  refine ⟨he,T',Y',q1,b1,b2,b3,b4,b5,b6,q4.pres h.m.wy.ok h.m.ct (fun x hx=>List.mem_cons_of_mem _ hx) (fun q hq=>List.mem_cons_of_mem _ (h.hC q hq)) (List.mem_cons_self ..) h.pr,fun q hq=>?_,fun _=>q4.1 (h.ft rfl)⟩;have:=(mem_cput (k':=q.1) (v':=q.2) h.m.ct.srt).1 hq;split at this
  ·rename_i e
   rw [← e];exact List.mem_cons_self ..
  ·exact List.mem_cons_of_mem _ (h.hC q this)
 ·exfalso
  rcases q3 with ⟨_,l,hl,q4⟩ | ⟨_,q4⟩
  ·rw [z3 l hl] at q4;omega
  ·omega
theorem KnI.delete (h : KnI w0 w p t bx H C k pt fat T Y) (hk : k ≤ 10) (hpt : pt ≤ 200) (key : Str) (hks : key.size ≤ 17) (hCl : C.length ≤ 100) :
    Calls Tryz.prog 23 #[.pointer (some ⟨t,0,none⟩),.string key] w fun e w'=>e=.returned (.tuple #[.string ((M.cget C key).getD s0),.bool (M.cget C key).isSome]) ∧
     ∃ T' Y',KnI w0 w' p t bx H (cdel C key) k pt false T' Y':=by
 have:=h.m.delete (by omega) (by omega) key (by omega) (by omega)
 rw [h.t] at this
 refine this.mono ?_
 rintro e w' ⟨he,T',Y',q1,q2,_,q4⟩
 obtain ⟨b1,b2,b3,b4,b5,b6⟩:=h.turn q2
 exact ⟨he,T',Y',q1,b1,b2,b3,b4,b5,b6,by rw [q4];exact h.pr,fun q hq=>h.hC q (List.mem_filter.1 hq).1,fun hf=>by cases hf⟩
theorem KnI.box {Y0 : List Ly} (h : MIs w0 w p t C 10 k pt Y0) (hp : Pres (Y0.map (·.pre)) (· ∈ H)) (hC : ∀ q, q ∈ C → q.1 ∈ H) (hf : ∀ l, l ∈ Y0 → Fat l.Ls) :
    ∃ T',KnI w0 (w.alloc (.cells #[.pointer (some ⟨t,0,none⟩)] 31)) p t w.heap.size H C k pt true T' Y0:=by
 obtain ⟨T,h1,h2,h3,h4,h5⟩:=h
 have hb:=(Below.refl w.heap.size w).alloc (Nat.le_refl _) (.cells #[.pointer (some ⟨t,0,none⟩)] 31)
 have hbx:=heap_alloc_new w (.cells #[.pointer (some ⟨t,0,none⟩)] 31)
 have hU:RU [] w (w.alloc (.cells #[.pointer (some ⟨t,0,none⟩)] 31)) T.ρ (mark T.ρ w.heap.size 9):=(RU.below h1.mf.am.bw.ro hb).mark (Nat.le_refl _) (heap_lt hbx)
 have hA:=h1.mf.am.ru hU (by simp)
 exact ⟨{ T with ρ:=mark T.ρ w.heap.size 9 },⟨⟨hA,h1.mf.fl,h1.mf.kd⟩,h1.wy,h1.ct,h1.ro,h1.ly,h1.n⟩,h2,h3,h4,h5,mark_self,hbx,hp,hC,fun _=>hf⟩
theorem KnI.late (h : KnI w0 w p t bx H C k pt fat T Y) (hk : k ≤ 10) (hpt : pt ≤ 200) (key : Str) (hks : key.size ≤ 17) {l : Ly} (hl : l ∈ Y) (hp : l.pre = (bl key).take 8) (hlt : 8 < (bl key).length) :
    Calls Tryz.prog 15 #[.pointer (some ⟨t,0,none⟩),.string key,.func (.func 40) #[] #[.pointer (some ⟨w.heap.size,0,none⟩),.pointer (some ⟨bx,0,none⟩)]] (w.alloc (.cells #[.int .i64 0] 3)) fun e W' =>
     e=.returned (.tuple #[.string ⟨#[]⟩,.bool false,.bool true])∧∃ T',MGn w0 W' T'∧T'.t=t∧T'.P.1=p∧T'.free.length=10∧T'.D.length=1∧W'.heap[bx]?=some (.cells #[.pointer (some ⟨t,0,none⟩)] 31):=by
 have hb:=(Below.refl w.heap.size w).alloc (Nat.le_refl _) (.cells #[.int .i64 0] 3)
 have hbx:=heap_alloc_new w (.cells #[.int .i64 0] 3)
 have hU:RU [] w (w.alloc (.cells #[.int .i64 0] 3)) T.ρ (mark T.ρ w.heap.size 8):=(RU.below h.m.mf.am.bw.ro hb).mark (Nat.le_refl _) (heap_lt hbx)
 have hA:=h.m.mf.am.ru hU (by simp)
 have hS:StL w0 t T.d.A.a p w.heap.size bx 10 C k pt Y ⟨0,{ T with ρ:=mark T.ρ w.heap.size 8 }⟩ (w.alloc (.cells #[.int .i64 0] 3)) :=
  ⟨h.t,rfl,h.p,h.c,h.d,mark_self,by show mark T.ρ w.heap.size 8 bx=9;rw [mark_other (by have:=heap_lt h.bx;omega)];exact h.rx,Below.heap' hb h.bx,.inl ⟨by show 0 < 2;omega,⟨⟨hA,h.m.mf.fl,h.m.mf.kd⟩,h.m.wy,h.m.ct,h.m.ro,h.m.ly,h.m.n⟩,hbx⟩⟩
 have h1:=h.m.size
 have h2:=h.m.yl
 refine (hS.late (by omega) (by omega) (by omega) key (by omega) hl hp hlt).mono ?_
 rintro e W' ⟨he,T',g1,g2,g3,g4,g5,g6⟩
 exact ⟨he,T',g1,g2,g3,g4,g5,g6⟩
end
structure KnG (w0 w:World) (p tt bx:Nat) (T:TS):Prop where
 g:MGn w0 w T
 t:T.t=tt
 p:T.P.1=p
 c:T.free.length=10
 d:T.D.length=1
 bx:w.heap[bx]?=some (.cells #[.pointer (some ⟨tt,0,none⟩)] 31)
section
variable {w0 w w':World} {p t bx:Nat} {T:TS}
theorem KnG.below (h:KnG w0 w p t bx T) (hb:Below w.heap.size w w'):KnG w0 w' p t bx T:=⟨h.g.below hb,h.t,h.p,h.c,h.d,Below.heap' hb h.bx⟩
theorem KnG.cell (h:KnG w0 w p t bx T):w.cell? ⟨bx,0,none⟩=some (.pointer (some ⟨t,0,none⟩))∧bx < w.heap.size:=⟨by rw [cell_of_heap h.bx];rfl,heap_lt h.bx⟩
theorem KnG.free (h:KnG w0 w p t bx T):Calls Tryz.prog 33 #[.pointer (some ⟨p,0,none⟩)] w fun e w'=>e=.returned (.int .i64 10)∧w=w':=by
 have hp:=h.g.bw.ars.pool.1
 have a1:=h.g.cnt
 have a2:=h.g.hd
 have a3:=h.g.emp
 have a5:=h.c
 have hd:=h.d
 have a4:T.D=[T.d]:=by
  match hD:T.D,hd with
  | [x],_ =>
   rw [hD] at a2
   cases hi:T.i with
   | zero=>rw [hi] at a2;simp at a2;rw [a2]
   | succ i=>rw [hi] at a2;simp at a2
 rw [a4] at a1
 simp [a3] at a1
 have:=pFree_any T.P.1 T.P.2.1 T.P.2.2 T.gens T.free w hp
 rw [h.p,a1,a5] at this
 exact this
end
open Go.RowKit
set_option maxRecDepth 100000 in
theorem getNil (key:Str) (v:Value) (w:World):Calls Tryz.prog 15 #[.pointer none,.string key,v] w fun e w'=>e=.returned (.tuple #[.string ⟨#[]⟩,.bool false,.bool true])∧w=w':=by
 have hn:=none_nil w
 go_enter Tryz.func15,Tryz.ntmps15
 go_wp2_with fail
 refine hn.mono ?_
 rintro e w1 ⟨rfl,rfl⟩
 go_wp2_with fail
 go_ret3
 exact ⟨rfl,rfl⟩
set_option maxRecDepth 100000 in
theorem putNil (key v:Str) (w:World):Calls Tryz.prog 22 #[.pointer none,.string key,.string v] w fun e w'=>e=.returned (.tuple #[.string ⟨#[]⟩,.bool false,.int .i64 2])∧w=w':=by
 have hn:=none_nil w
 go_enter Tryz.func22,Tryz.ntmps22
 go_wp2_with fail
 refine hn.mono ?_
 rintro e w1 ⟨rfl,rfl⟩
 go_wp2_with fail
 go_ret3
 exact ⟨rfl,rfl⟩
set_option maxRecDepth 100000 in
theorem dropNil (w:World):Calls Tryz.prog 41 #[.pointer none] w fun e w'=>e=.returned (.tuple #[])∧w=w':=by
 have hn:=none_nil w
 go_enter Tryz.func41,Tryz.ntmps41
 go_wp2_with fail
 refine hn.mono ?_
 rintro e w1 ⟨rfl,rfl⟩
 go_wp2_with fail
 exact ⟨rfl,.tuple #[],by simp [results,Tryz.results41,go_sem],rfl,rfl⟩
set_option maxRecDepth 100000 in
theorem allNil (w:World):Calls Tryz.prog 30 #[.pointer none] w fun e w'=>e=.returned (.slice none 0 0)∧w=w':=by
 have hn:=none_nil w
 go_enter Tryz.func30,Tryz.ntmps30
 go_wp2_with fail
 refine hn.mono ?_
 rintro e w1 ⟨rfl,rfl⟩
 go_wp2_with fail
 go_ret
 exact ⟨rfl,rfl⟩
set_option maxRecDepth 100000 in
theorem checkNil (w:World):Calls Tryz.prog 20 #[.pointer none] w fun e w'=>e=.returned (.bool false)∧w=w':=by
 have hn:=none_nil w
 go_enter Tryz.func20,Tryz.ntmps20
 go_wp2_with fail
 refine hn.mono ?_
 rintro e w1 ⟨rfl,rfl⟩
 go_wp2_with fail
 go_ret
 exact ⟨rfl,rfl⟩
section
variable {w:World} {z:Nat} (h:w.cell? ⟨z,1,none⟩=some (.pointer none))
include h
set_option maxRecDepth 100000 in
theorem nextZero (key:Str) (after:Bool) (v:Value):Calls Tryz.prog 18 #[.pointer (some ⟨z,0,none⟩),.string key,.bool after,v] w fun e w'=>e=.returned (.tuple #[.string ⟨#[]⟩,.string ⟨#[]⟩,.bool false,.bool true])∧w=w':=by
 have hn:=none_zero h
 have hq:=block_lt_of_cell h
 go_enter Tryz.func18,Tryz.ntmps18
 go_wp2_with fail
 refine hn.mono ?_
 rintro e w1 ⟨rfl,rfl⟩
 go_wp2_with fail
 refine bodyPost_ret (v:=.tuple #[.string ⟨#[]⟩,.string ⟨#[]⟩,.bool false,.bool true]) (by simp [results,Tryz.results18,go_sem]) rfl ⟨rfl,rfl⟩
set_option maxRecDepth 100000 in
theorem deleteZero (key:Str):Calls Tryz.prog 23 #[.pointer (some ⟨z,0,none⟩),.string key] w fun e w'=>e=.returned (.tuple #[.string ⟨#[]⟩,.bool false])∧w=w':=by
 have hn:=none_zero h
 have hq:=block_lt_of_cell h
 go_enter Tryz.func23,Tryz.ntmps23
 go_wp2_with fail
 refine hn.mono ?_
 rintro e w1 ⟨rfl,rfl⟩
 go_wp2_with fail
 go_ret2
 exact ⟨rfl,rfl⟩
end
open Go.RowKit
def knZ:Str:=⟨#[97,97,97,97,97,97,97,97,122]⟩
def knXX:Str:=⟨#[97,97,97,97,97,97,97,97,120,120]⟩
def kc1:Cont Str:=[(knA,knV 49)]
def kc2:Cont Str:=[(knA,knV 49),(knX,knV 50)]
def kc3:Cont Str:=[(knA,knV 49),(knX,knV 50),(knY,knV 51)]
def kc4:Cont Str:=[(knA,knV 49),(kn1,knV 52),(knX,knV 50),(knY,knV 51)]
def kc5:Cont Str:=[(knA,knV 49),(kn1,knV 52),(kn2,knV 53),(knX,knV 50),(knY,knV 51)]
def kd1:Cont Str:=[(knA,knV 49),(kn2,knV 53),(knX,knV 50),(knY,knV 51)]
theorem kn_puts:cput [] knA (knV 49)=kc1∧cput kc1 knX (knV 50)=kc2∧cput kc2 knY (knV 51)=kc3∧cput kc3 kn1 (knV 52)=kc4∧cput kc4 kn2 (knV 53)=kc5:=by decide
theorem kn_gets:M.cget ([]:Cont Str) knA=none∧M.cget kc1 knX=none∧M.cget kc2 knY=none∧M.cget kc3 kn1=none∧M.cget kc4 kn2=none:=by decide
theorem kn_dels:cdel kc5 kn1=kd1∧cdel kd1 kn2=kc3∧cdel kc3 kn2=kc3∧M.cget kc5 kn1=some (knV 52)∧M.cget kd1 kn2=some (knV 53)∧M.cget kc3 kn2=none:=by decide
theorem kn_asks:M.cget kc3 knA=some (knV 49)∧M.cget kc3 knX=some (knV 50)∧M.cget kc3 knZ=none∧M.cnext kc3 knA true=some (knX,knV 50)∧M.cnext kc3 knXX false=some (knY,knV 51)∧M.cnext kc3 knY true=none:=by decide
theorem knH_of {H:List Str} {C:Cont Str} {n:Nat} (hs:CSort C) (h1:∀ k,k∈H→(bl k).length≤23) (h2:∀ k,k∈H→(M.cget C k).isSome=true) (h3:(marksL H 0).length≤3∧(marksL H 1).length≤3∧(marksL H 2).length≤3) (h4:(wantL H).length=n) (h5:(wantL H).Nodup):KnH H C n :=
 ⟨h1,fun k hk=>by
  obtain ⟨v,hv⟩:=Option.isSome_iff_exists.1 (h2 k hk)
  exact ⟨v,(cget_iff hs).1 hv⟩,h3,h4,h5⟩
theorem knH0 (hs:CSort ([]:Cont Str)):KnH [] [] 1:=knH_of hs (by decide) (by decide) (by decide) (by decide) (by decide)
theorem knH1 (hs:CSort (kc1:Cont Str)):KnH [knA] kc1 1:=knH_of hs (by decide) (by decide) (by decide) (by decide) (by decide)
theorem knH2 (hs:CSort (kc2:Cont Str)):KnH [knX,knA] kc2 1:=knH_of hs (by decide) (by decide) (by decide) (by decide) (by decide)
theorem knH3 (hs:CSort (kc3:Cont Str)):KnH [knY,knX,knA] kc3 2:=knH_of hs (by decide) (by decide) (by decide) (by decide) (by decide)
theorem knH4 (hs:CSort (kc4:Cont Str)):KnH [kn1,knY,knX,knA] kc4 2:=knH_of hs (by decide) (by decide) (by decide) (by decide) (by decide)
theorem knH5 (hs:CSort (kc5:Cont Str)):KnH [kn2,kn1,knY,knX,knA] kc5 3:=knH_of hs (by decide) (by decide) (by decide) (by decide) (by decide)
set_option maxRecDepth 100000 in
set_option maxHeartbeats 8000000 in
theorem mtKnownLaw_walk (w:World):Calls Tryz.prog 7 #[] w fun e w'=>e=.returned (.bool true)∧Below w.heap.size w w':=by
 go_enter Tryz.func7,Tryz.ntmps7
 go_wp2_with fail
 refine (show Calls Tryz.prog 11 #[.int .i64 10] w _ from arNewPool_some 10 w (by decide) (by decide)).mono ?_
 rintro e w1 ⟨p,g,f,rfl,hB1,hp1,hg1,hf1,hP1⟩
 have hNw:=qh (MIs.new (w0:=w) hB1 hP1 ⟨hp1,hg1,hf1⟩ (by decide))
 clear hP1 hB1 hp1 hg1 hf1
 go_wp2_with fail
 refine hNw.out.mono ?_
 clear hNw
 rintro e w2 ⟨t,r,rfl,hT⟩
 have hK:=KnI.box (H:=[]) hT (fun q hq=>.inl (by simpa [ly0] using hq)) (fun q hq=>by cases hq) (fun l hl=>by rw [List.mem_singleton.1 hl];exact .inl rfl)
 clear hT
 obtain ⟨T,hK⟩:=hK
 go_upto_region 5 with fail
 obtain ⟨bx,hbx⟩:∃ b,b=w2.heap.size:=⟨_,rfl⟩
 rw [← hbx] at hK ⊢
 replace hbx:=qh hbx
 obtain ⟨W0,hW0⟩:∃ W,W=w2.alloc (.cells #[.pointer (some ⟨t,0,none⟩)] 31):=⟨_,rfl⟩
 rw [← hW0] at hK ⊢
 replace hW0:=qh hW0
 have ev49:(knV 49).toList=[49]:=by rw [ByteArray.toList_eq];rfl
 have ev50:(knV 50).toList=[50]:=by rw [ByteArray.toList_eq];rfl
 have ev51:(knV 51).toList=[51]:=by rw [ByteArray.toList_eq];rfl
 have ev52:(knV 52).toList=[52]:=by rw [ByteArray.toList_eq];rfl
 have ev53:(knV 53).toList=[53]:=by rw [ByteArray.toList_eq];rfl
 have ek120:(fK (some (knX,knV 50))).toList=[97,97,97,97,97,97,97,97,120]:=by rw [ByteArray.toList_eq];rfl
 have ex120:(fX (some (knX,knV 50))).toList=[50]:=by rw [ByteArray.toList_eq];rfl
 have ek121:(fK (some (knY,knV 51))).toList=[97,97,97,97,97,97,97,97,121]:=by rw [ByteArray.toList_eq];rfl
 have ex121:(fX (some (knY,knV 51))).toList=[51]:=by rw [ByteArray.toList_eq];rfl
 have hn:=knH0 hK.m.ct.srt
 have hQ:=hK.put hn (by decide) (by decide) (by decide) knA (knV 49) (by decide) (by decide)
 rw [kn_gets.1,kn_puts.1] at hQ
 replace hQ:=qh hQ
 clear hn
 obtain ⟨x0,xq⟩:=hK.cell
 replace hK:=qh hK
 go_wp2_with fail
 refine hQ.out.mono ?_
 clear hQ x0 xq hK
 rintro e v1 ⟨rfl,T1,Y1,hK⟩
 have hn:=knH1 hK.m.ct.srt
 have hQ:=hK.put hn (by decide) (by decide) (by decide) knX (knV 50) (by decide) (by decide)
 rw [kn_gets.2.1,kn_puts.2.1] at hQ
 replace hQ:=qh hQ
 clear hn
 obtain ⟨x0,xq⟩:=hK.cell
 replace hK:=qh hK
 go_wp2_with fail
 refine hQ.out.mono ?_
 clear hQ x0 xq hK
 rintro e v2 ⟨rfl,T2,Y2,hK⟩
 have hn:=knH2 hK.m.ct.srt
 have hQ:=qh (hK.layers hn)
 have hR:=qh (hK.slots hn)
 clear hn
 obtain ⟨x0,xq⟩:=hK.cell
 replace hK:=qh hK
 go_wp2_with fail
 refine hQ.out.mono ?_
 rintro e v3 ⟨rfl,rfl⟩
 go_wp2_with fail
 refine hR.out.mono ?_
 rintro e v4 ⟨rfl,hb⟩
 replace hK:=hK.out.below hb
 clear hQ hR x0 xq hb
 have hn:=knH2 hK.m.ct.srt
 have hQ:=hK.put hn (by decide) (by decide) (by decide) knY (knV 51) (by decide) (by decide)
 rw [kn_gets.2.2.1,kn_puts.2.2.1] at hQ
 replace hQ:=qh hQ
 clear hn
 obtain ⟨x0,xq⟩:=hK.cell
 replace hK:=qh hK
 go_wp2_with fail
 refine hQ.out.mono ?_
 clear hQ x0 xq hK
 rintro e v5 ⟨rfl,T5,Y5,hK⟩
 have hQ:=hK.is.get (key:=knA) (by decide) (by decide) (by decide)
 rw [kn_asks.1] at hQ
 replace hQ:=qh hQ
 obtain ⟨x0,xq⟩:=hK.cell
 replace hK:=qh hK
 go_wp2_with fail
 refine hQ.out.mono ?_
 rintro e v6 ⟨rfl,hb⟩
 replace hK:=hK.out.below hb
 clear hQ x0 xq hb
 have hQ:=hK.is.get (key:=knX) (by decide) (by decide) (by decide)
 rw [kn_asks.2.1] at hQ
 replace hQ:=qh hQ
 obtain ⟨x0,xq⟩:=hK.cell
 replace hK:=qh hK
 go_wp2_with fail
 refine hQ.out.mono ?_
 rintro e v7 ⟨rfl,hb⟩
 replace hK:=hK.out.below hb
 clear hQ x0 xq hb
 have hQ:=hK.is.get (key:=knZ) (by decide) (by decide) (by decide)
 rw [kn_asks.2.2.1] at hQ
 replace hQ:=qh hQ
 obtain ⟨x0,xq⟩:=hK.cell
 replace hK:=qh hK
 go_wp2_with fail
 refine hQ.out.mono ?_
 rintro e v8 ⟨rfl,hb⟩
 replace hK:=hK.out.below hb
 clear hQ x0 xq hb
 have hQ:=hK.is.next (key:=knA) (by decide) (by decide) (by decide) true
 rw [kn_asks.2.2.2.1] at hQ
 replace hQ:=qh hQ
 obtain ⟨x0,xq⟩:=hK.cell
 replace hK:=qh hK
 go_wp2_with fail
 refine hQ.out.mono ?_
 rintro e v9 ⟨rfl,hb⟩
 replace hK:=hK.out.below hb
 clear hQ x0 xq hb
 have hQ:=hK.is.next (key:=knXX) (by decide) (by decide) (by decide) false
 rw [kn_asks.2.2.2.2.1] at hQ
 replace hQ:=qh hQ
 obtain ⟨x0,xq⟩:=hK.cell
 replace hK:=qh hK
 go_wp2_with fail
 refine hQ.out.mono ?_
 rintro e v10 ⟨rfl,hb⟩
 replace hK:=hK.out.below hb
 clear hQ x0 xq hb
 have hQ:=hK.is.next (key:=knY) (by decide) (by decide) (by decide) true
 rw [kn_asks.2.2.2.2.2] at hQ
 replace hQ:=qh hQ
 obtain ⟨x0,xq⟩:=hK.cell
 replace hK:=qh hK
 go_wp2_with fail
 refine hQ.out.mono ?_
 rintro e v11 ⟨rfl,hb⟩
 replace hK:=hK.out.below hb
 clear hQ x0 xq hb
 have hn:=knH3 hK.m.ct.srt
 have hQ:=qh (hK.layers hn)
 have hR:=qh (hK.slots hn)
 clear hn
 obtain ⟨x0,xq⟩:=hK.cell
 replace hK:=qh hK
 go_wp2_with fail
 refine hQ.out.mono ?_
 rintro e v12 ⟨rfl,rfl⟩
 go_wp2_with fail
 refine hR.out.mono ?_
 rintro e v13 ⟨rfl,hb⟩
 replace hK:=hK.out.below hb
 clear hQ hR x0 xq hb
 have hn:=knH3 hK.m.ct.srt
 have hQ:=hK.put hn (by decide) (by decide) (by decide) kn1 (knV 52) (by decide) (by decide)
 rw [kn_gets.2.2.2.1,kn_puts.2.2.2.1] at hQ
 replace hQ:=qh hQ
 clear hn
 obtain ⟨x0,xq⟩:=hK.cell
 replace hK:=qh hK
 go_wp2_with fail
 refine hQ.out.mono ?_
 clear hQ x0 xq hK
 rintro e v14 ⟨rfl,T14,Y14,hK⟩
 have hn:=knH4 hK.m.ct.srt
 have hQ:=hK.put hn (by decide) (by decide) (by decide) kn2 (knV 53) (by decide) (by decide)
 rw [kn_gets.2.2.2.2,kn_puts.2.2.2.2] at hQ
 replace hQ:=qh hQ
 clear hn
 obtain ⟨x0,xq⟩:=hK.cell
 replace hK:=qh hK
 go_wp2_with fail
 refine hQ.out.mono ?_
 clear hQ x0 xq hK
 rintro e v15 ⟨rfl,T15,Y15,hK⟩
 have hn:=knH5 hK.m.ct.srt
 have hQ:=qh (hK.layers hn)
 have hR:=qh (hK.slots hn)
 clear hn
 obtain ⟨x0,xq⟩:=hK.cell
 replace hK:=qh hK
 go_wp2_with fail
 refine hQ.out.mono ?_
 rintro e v16 ⟨rfl,rfl⟩
 go_wp2_with fail
 refine hR.out.mono ?_
 rintro e v17 ⟨rfl,hb⟩
 replace hK:=hK.out.below hb
 clear hQ hR x0 xq hb
 have hQ:=hK.delete (by decide) (by decide) kn1 (by decide) (by decide)
 rw [kn_dels.2.2.2.1,kn_dels.1] at hQ
 replace hQ:=qh hQ
 obtain ⟨x0,xq⟩:=hK.cell
 replace hK:=qh hK
 go_wp2_with fail
 refine hQ.out.mono ?_
 clear hQ x0 xq hK
 rintro e v18 ⟨rfl,T18,Y18,hK⟩
 have hQ:=hK.delete (by decide) (by decide) kn2 (by decide) (by decide)
 rw [kn_dels.2.2.2.2.1,kn_dels.2.1] at hQ
 replace hQ:=qh hQ
 obtain ⟨x0,xq⟩:=hK.cell
 replace hK:=qh hK
 go_wp2_with fail
 refine hQ.out.mono ?_
 clear hQ x0 xq hK
 rintro e v19 ⟨rfl,T19,Y19,hK⟩
 have hQ:=hK.delete (by decide) (by decide) kn2 (by decide) (by decide)
 rw [kn_dels.2.2.2.2.2,kn_dels.2.2.1] at hQ
 replace hQ:=qh hQ
 obtain ⟨x0,xq⟩:=hK.cell
 replace hK:=qh hK
 go_wp2_with fail
 refine hQ.out.mono ?_
 clear hQ x0 xq hK
 rintro e v20 ⟨rfl,T20,Y20,hK⟩
 have hQ:=qh hK.is.len
 have hR:=qh (hK.is.check (by decide) (by decide) (by decide))
 obtain ⟨x0,xq⟩:=hK.cell
 replace hK:=qh hK
 go_wp2_with fail
 refine hQ.out.mono ?_
 rintro e v21 ⟨rfl,rfl⟩
 go_wp2_with fail
 refine hR.out.mono ?_
 rintro e vz ⟨rfl,hb⟩
 replace hK:=hK.out.below hb
 clear hQ hR x0 xq hb
 obtain ⟨lA,hl,hlp⟩:=deep_there (n:=1) hK.m.wy.ok hK.m.ct (k1:=knX) (k2:=knY) (v1:=knV 50) (v2:=knV 51) (.tail _ (.head _)) (.tail _ (.tail _ (.head _))) (by decide) (by decide) (by decide) (by decide)
 have hQ:=qh (hK.late (by decide) (by decide) knX (by decide) hl hlp (by decide))
 have hbl:=qh hK.bel
 have hxn:=qh (Below.heap' ((Below.refl vz.heap.size vz).alloc (Nat.le_refl _) (.cells #[.int .i64 0] 3)) hK.bx)
 clear hl hlp hK
 go_upto_region 28 with fail
 have x0:(vz.alloc (.cells #[.int .i64 0] 3)).cell? ⟨bx,0,none⟩=some (.pointer (some ⟨t,0,none⟩)):=by rw [cell_of_heap hxn.out];rfl
 have xq:=heap_lt hxn.out
 generalize vz.alloc (.cells #[.int .i64 0] 3)=W9 at *
 generalize vz.heap.size=nb at *
 go_wp2_with fail
 refine hQ.out.mono ?_
 clear hQ x0 xq hxn
 rintro e u1 ⟨rfl,T9,g1,g2,g3,g4,g5,g6⟩
 have hG:KnG w u1 p t bx T9:=⟨g1,g2,g3,g4,g5,g6⟩
 clear g1 g2 g3 g4 g5 g6
 have hQ:=hG.g.get ⟨#[98]⟩ (by decide)
 rw [hG.t] at hQ
 replace hQ:=qh hQ
 obtain ⟨x0,xq⟩:=hG.cell
 replace hG:=qh hG
 go_wp2_with fail
 refine hQ.out.mono ?_
 rintro e u22 ⟨rfl,hb⟩
 replace hG:=hG.out.below hb
 clear hQ x0 xq hb
 have hQ:=hG.g.put ⟨#[98]⟩ ⟨#[49]⟩
 rw [hG.t] at hQ
 replace hQ:=qh hQ
 obtain ⟨x0,xq⟩:=hG.cell
 replace hG:=qh hG
 go_wp2_with fail
 refine hQ.out.mono ?_
 rintro e u23 ⟨rfl,hb⟩
 replace hG:=hG.out.below hb
 clear hQ x0 xq hb
 have hQ:=hG.free
 skip
 replace hQ:=qh hQ
 obtain ⟨x0,xq⟩:=hG.cell
 replace hG:=qh hG
 go_wp2_with fail
 refine hQ.out.mono ?_
 rintro e u24 ⟨rfl,rfl⟩
 replace hG:=hG.out
 clear hQ x0 xq
 have hQ:=hG.g.check
 rw [hG.t] at hQ
 replace hQ:=qh hQ
 obtain ⟨x0,xq⟩:=hG.cell
 replace hG:=qh hG
 go_wp2_with fail
 refine hQ.out.mono ?_
 rintro e u25 ⟨rfl,hb⟩
 replace hG:=hG.out.below hb
 clear hQ x0 xq hb
 have hQ:=hG.g.layers
 rw [hG.t] at hQ
 replace hQ:=qh hQ
 obtain ⟨x0,xq⟩:=hG.cell
 replace hG:=qh hG
 go_wp2_with fail
 refine hQ.out.mono ?_
 rintro e u26 ⟨rfl,rfl⟩
 replace hG:=hG.out
 clear hQ x0 xq
 have hbG:=qh hG.g.bw.ro.bel
 clear hG hbl
 obtain ⟨wn,hwn⟩:∃ W,W=u25:=⟨_,rfl⟩
 rw [← hwn] at hbG ⊢
 clear hwn
 go_wp2_with fail
 refine (dropNil _).mono ?_
 rintro e z27 ⟨rfl,rfl⟩
 go_wp2_with fail
 refine (getNil _ _ _).mono ?_
 rintro e z28 ⟨rfl,rfl⟩
 have hA:Below wn.heap.size wn (wn.alloc (.cells #[.pointer none,.pointer none,.int .i64 0,.int .u64 0,.int .i64 0,.int .i64 0,.bool false] 73)):=(Below.refl _ _).alloc (Nat.le_refl _) _
 have hz:(wn.alloc (.cells #[.pointer none,.pointer none,.int .i64 0,.int .u64 0,.int .i64 0,.int .i64 0,.bool false] 73)).cell? ⟨wn.heap.size,1,none⟩=some (.pointer none):=by rw [cell_of_heap (heap_alloc_new _ _)];rfl
 have hc:=qh (fun v:Value=>nextZero hz ⟨#[97]⟩ false v)
 replace hbG:=qh (hbG.out.trans (hA.mono hbG.out.size))
 clear hA hz
 go_wp2_with fail
 refine (hc.out _).mono ?_
 clear hc
 generalize wn.alloc (.cells #[.pointer none,.pointer none,.int .i64 0,.int .u64 0,.int .i64 0,.int .i64 0,.bool false] 73)=wm at *
 rintro e z29 ⟨rfl,rfl⟩
 go_wp2_with fail
 refine (putNil _ _ _).mono ?_
 rintro e z30 ⟨rfl,rfl⟩
 have hA:Below wm.heap.size wm (wm.alloc (.cells #[.pointer none,.pointer none,.int .i64 0,.int .u64 0,.int .i64 0,.int .i64 0,.bool false] 73)):=(Below.refl _ _).alloc (Nat.le_refl _) _
 have hz:(wm.alloc (.cells #[.pointer none,.pointer none,.int .i64 0,.int .u64 0,.int .i64 0,.int .i64 0,.bool false] 73)).cell? ⟨wm.heap.size,1,none⟩=some (.pointer none):=by rw [cell_of_heap (heap_alloc_new _ _)];rfl
 have hc:=qh (deleteZero hz ⟨#[97]⟩)
 replace hbG:=qh (hbG.out.trans (hA.mono hbG.out.size))
 clear hA hz
 go_wp2_with fail
 refine (hc.out).mono ?_
 clear hc
 generalize wm.alloc (.cells #[.pointer none,.pointer none,.int .i64 0,.int .u64 0,.int .i64 0,.int .i64 0,.bool false] 73)=wz at *
 rintro e z31 ⟨rfl,rfl⟩
 go_wp2_with fail
 refine (awake15_any _).mono ?_
 rintro e wy ⟨rfl,hb⟩
 replace hbG:=qh (hbG.out.trans (hb.mono hbG.out.size))
 clear hb
 go_wp2_with fail
 refine (lenN _).mono ?_
 rintro e z32 ⟨rfl,rfl⟩
 go_wp2_with fail
 refine (slotsN _).mono ?_
 rintro e z33 ⟨rfl,rfl⟩
 go_wp2_with fail
 refine (layersN _).mono ?_
 rintro e z34 ⟨rfl,rfl⟩
 go_wp2_with fail
 refine (allNil _).mono ?_
 rintro e z35 ⟨rfl,rfl⟩
 go_wp2_with fail
 refine (checkNil _).mono ?_
 rintro e z36 ⟨rfl,rfl⟩
 go_wp2_with fail
 go_ret
 exact ⟨by simp,hbG.out⟩
end Go.Proofs.YtbdealmkmpnpoaaGreat.M
namespace Go.Proofs.YtbdealmkmpnpoaaGreat.masstreeKnown
open Go.ChangeShapes Go.WideShapes Go.ChangeAt Go.RowKit
open Go.ChangeMaps (open_string shut_string)
set_option linter.unusedVariables false
theorem own:ownKnob Tryz.prog.godebug=none:=by kernel_rfl
set_option maxRecDepth 100000 in
theorem lifted (os : Os) (started : os.Started) (H : Type) (enc : TypeId × Value → H) :
    ReturnsInHanded {} Tryz.checked os 7 .any (Rows.masstreeKnownSpec.pre6 enc Tryz.prog Tryz.f7 Rows.masstreeKnownRow.domain false) (Rows.masstreeKnownSpec.post enc Tryz.prog Tryz.f7 false true false false):=by
 refine returnsInHanded_of_change (C:=Tryz.checked) own started (by kernel_rfl) Tryz.func7
  (ChangeSpec.witness6 (enc:=enc) (C:=Tryz.checked) false ⟨#[],#[],[]⟩ 8 (by kernel_rfl) (by kernel_rfl) (by kernel_rfl) (by kernel_rfl)) ?_
 intro W base args ds gs before hval0 hW hcnd _
 have hval:∀ (j:Nat) t v,Tryz.f7.params[j]?=some t→args[j]?=some v→Value.okWide Tryz.prog W .any base t v:=hval0
 have hW':=hW
 obtain ⟨p,q,hA0,hV,rfl,hfz,hnd⟩:=hW
 have hA:DataW.TrodAll enc Tryz.prog W 0 (fun _=>true) true Tryz.f7.params.toList args.toList ds p:=hA0
 rw [Tryz.params7] at hA hval
 obtain ⟨rfl,rfl,rfl⟩:=trodAll_none hA
 obtain ⟨rfl,rfl⟩:=trodVars_none hV
 clear hA0 hval0
 refine (M.mtKnownLaw_walk  W ).mono fun e W' ⟨he,bel⟩=>?_
 subst he
 exact ⟨_,rfl,_,_,_,[],_,[],hW',trodAll_mk1 (shut_bool Tryz.underlying4 _),rfl,rfl,bel.frame _,fun h=>by cases h⟩
theorem over:Rows.masstreeKnownRow.holds Tryz.pinned (OpenSpec.ofChange Rows.masstreeKnownSpec) :=
 OpenClaim.holds_of_wide 7 Tryz.f7 rfl rfl rfl rfl rfl rfl rfl ⟨rfl,rfl,rfl,rfl,rfl⟩ rfl rfl rfl rfl rfl (by kernel_rfl) Tryz.func7 (by kernel_rfl)
  (of_decide_eq_true (by kernel_rfl)) (by unfold Func.isWrapper;first | (rw [if_pos (by decide +kernel)];kernel_rfl) | (rw [if_neg (by decide +kernel)];exact ⟨rfl,rfl⟩))
  (fun os started H enc _=>lifted os started H enc)
theorem proved:Rows.MasstreeKnownSaid:=over
#print axioms proved
end Go.Proofs.YtbdealmkmpnpoaaGreat.masstreeKnown
